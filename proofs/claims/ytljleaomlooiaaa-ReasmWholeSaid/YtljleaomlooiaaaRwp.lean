/- A text that comes in pieces: what a buffer holds of it. No condition. -/
import Derived.Test.YtljleaomlooiaaaRfi
import Derived.Laws.Concat
namespace Go.Proofs.Ytljleaomlooiaaa.M
open Go.ChangeShapes Go.WideShapes Go.ChangeAt Go.RowKit

/-- reads one by one, the rest behind a name: the walk must not look into what is still to come -/
theorem wpStill_open {P : Program} {ops : Array Oper} {w : World} {Q : Act → Prop} {rest : List Oper} {a : Act}
    (h : ∀ Wf : List Oper → Act → Prop, (∀ a, Q a → Wf [] a) → (∀ o rest a v, o.guard = none → (execOp a.eval o).run P w = .ok (.value v) w → Wf rest (a.put o.dst v) → Wf (o :: rest) a) →
      (∀ o rest a, (∀ K : Act → Prop, (∀ a, Wf rest a → K a) → if Region.wanted o (yielded ops a.tmps) then o.still P a w K else K (a.put o.dst undef)) → Wf (o :: rest) a) → Wf rest a) : wpStill P ops w Q rest a :=
  h _ (fun _ h => h) (fun _ _ _ v hg hr h => wpStill_val v hg hr h) (fun _ _ _ h => wpStill_step h)
/-- what a buffer holds is of the text -/
structure Wh (T : Bytes) (B : Bf) : Prop where
  ok : B.Ok
  win : B.win = T.length
  txt : ∀ q ∈ flat B.l, T[q.1]? = some q.2
  fin : B.known = true → B.fin = T.length
  rs : B.reset = false
theorem row_txt {T : Bytes} : ∀ {b : Bytes} {o : Nat}, (∀ q ∈ row o b, T[q.1]? = some q.2) → b = (T.drop o).take b.length
  | [], o, _ => by simp
  | x :: r, o, h => by
    have h1 := h (o, x) (by simp [row])
    have h2 := row_txt (b := r) (o := o + 1) (fun q hq => h q (by simp [row, hq]))
    simp only at h1
    obtain ⟨hl, hx⟩ := List.getElem?_eq_some_iff.1 h1
    rw [List.drop_eq_getElem_cons hl, hx, List.length_cons, List.take_succ_cons, ← h2]
theorem txt_row {T : Bytes} : ∀ {b : Bytes} {o : Nat}, b = (T.drop o).take b.length → ∀ q ∈ row o b, T[q.1]? = some q.2
  | [], o, _, q, hq => by cases hq
  | x :: r, o, h, q, hq => by
    have hl : o < T.length := by
      have := congrArg List.length h
      simp only [List.length_cons, List.length_take, List.length_drop] at this
      omega
    rw [List.drop_eq_getElem_cons hl, List.length_cons, List.take_succ_cons] at h
    injection h with h1 h2
    rcases List.mem_cons.1 hq with rfl | hq
    · rw [List.getElem?_eq_getElem hl, h1]
    · exact txt_row h2 q hq
theorem Wh.run_eq {T : Bytes} {B : Bf} (h : Wh T B) : run B.l B.a = (T.drop B.a).take (run B.l B.a).length := by
  obtain ⟨r, h1, _⟩ := run_flat B.l B.a h.ok.srt
  refine row_txt (fun q hq => h.txt q ?_)
  rw [h1]
  exact List.mem_append_left _ hq
theorem Wh.le {T : Bytes} {B : Bf} (h : Wh T B) : B.a + (run B.l B.a).length ≤ T.length := by
  have h1 := run_stop h.ok.stop h.ok.at_
  have h2 := h.ok.top
  rw [h.win] at h2
  omega
theorem Wh.adds {T : Bytes} {B : Bf} (h : Wh T B) {a : Nat} {b : Bytes} {f : Bool} (hb : a + b.length ≤ T.length) (hf : f = true → a + b.length = T.length) (hT : T.length < 18446744073709551616) : B.adds a b f = 0 := by
  have hs : stp a b = a + b.length := by unfold stp; exact Nat.mod_eq_of_lt (by omega)
  have hw := h.win
  have ht := h.ok.top
  unfold Bf.adds Bf.chk
  rw [hs, if_neg, if_neg, if_neg]
  · rintro ⟨h1, h2⟩
    have := hf h1
    omega
  · rintro ⟨h1, h2⟩
    have := h.fin h1
    rcases h2 with h2 | ⟨h2, h3⟩
    · omega
    · have := hf h2
      omega
  · rintro (h1 | h1)
    · rw [decide_eq_false_iff_not] at h1; omega
    · omega
theorem Wh.add {T : Bytes} {B B' : Bf} (h : Wh T B) {a : Nat} {b : Bytes} {f : Bool} (ha : B.AddTo a b f B') (hok : B'.Ok) (hb : b = (T.drop a).take b.length) (hf : f = true → a + b.length = T.length) : Wh T B' := by
  unfold Bf.AddTo at ha
  split at ha
  · obtain ⟨l', hp, _, rfl⟩ := ha
    refine ⟨hok, h.win, fun q hq => ?_, fun hk => ?_, h.rs⟩
    · have h1 := (flat_perm hp).mem_iff.1 hq
      rw [flat_append, news_flat a b B.l B.a _ h.ok.srt (by omega)] at h1
      rcases List.mem_append.1 h1 with h1 | h1
      · exact h.txt q h1
      · exact txt_row hb q (List.mem_filter.1 h1).1
    · simp only at hk ⊢
      cases f with
      | true => simp; exact hf rfl
      | false => simp at hk ⊢; exact h.fin hk
  · rw [ha]; exact h
theorem Wh.read {T : Bytes} {B : Bf} (h : Wh T B) {k : Nat} (hk : k ≤ (run B.l B.a).length) : Wh T (B.reads k) := by
  refine ⟨h.ok.reads hk, h.win, fun q hq => h.txt q ?_, h.fin, h.rs⟩
  have : q ∈ (flat B.l).drop k := by rw [← dropB_flat]; exact hq
  exact List.mem_of_mem_drop this
/-- what is got -/
theorem Wh.got {T : Bytes} {B : Bf} (h : Wh T B) {k : Nat} (hk : k ≤ (run B.l B.a).length) : T.take B.a ++ (run B.l B.a).take k = T.take (B.a + k) := by
  rw [h.run_eq, List.take_take, Nat.min_eq_left hk, List.take_add]
theorem mk_cat (x y : Bytes) : (ByteArray.mk x.toArray) ++ (ByteArray.mk y.toArray) = ⟨(x ++ y).toArray⟩ := by rw [ByteArray.mk_append_mk]
/-- behind the whole text all can be read -/
theorem Wh.all {T : Bytes} {B B' : Bf} (h : Wh T B) (ha : B.AddTo 0 T true B') (hok : B'.Ok) (hT : T.length < 18446744073709551616) : B'.a + (run B'.l B'.a).length = T.length ∧ B'.known = true ∧ dropB (run B'.l B'.a).length B'.l = [] ∧ B'.a = B.a := by
  have hw := h.add (a := 0) (b := T) (f := true) ha hok (by simp) (fun _ => by omega)
  have had := h.adds (a := 0) (b := T) (f := true) (by omega) (fun _ => by omega) hT
  have hle := hw.le
  have hnil : ∀ (l : List Pc) (a : Nat), Srt a l → flat l = [] → l = [] := fun l a hs he => by
    cases l with
    | nil => rfl
    | cons p r =>
      rw [flat_cons] at he
      have h1 := congrArg List.length he
      rw [List.length_append, row_length, List.length_nil] at h1
      have h2 := List.length_pos_iff.2 hs.2.1
      omega
  have hkey : ∀ q ∈ flat B'.l, q.1 < T.length := fun q hq => by
    have := hw.txt q hq
    exact (List.getElem?_eq_some_iff.1 this).1
  have hfull : B'.a + (run B'.l B'.a).length = T.length → dropB (run B'.l B'.a).length B'.l = [] := fun e => by
    obtain ⟨r, h1, h2⟩ := run_flat B'.l B'.a hok.srt
    refine hnil _ _ (dropB_srt B'.l B'.a _ hok.srt (Nat.le_refl _)) ?_
    rw [dropB_flat, h1, List.drop_append_of_le_length (by rw [row_length]; omega), row_drop, List.drop_eq_nil_of_le (Nat.le_refl _)]
    have : r = [] := by
      cases r with
      | nil => rfl
      | cons q r =>
        have h3 := h2 q (by simp)
        have h4 := hkey q (by rw [h1]; simp)
        omega
    rw [this]
    rfl
  by_cases hov : B.over = false
  · obtain ⟨l', hp, _, e⟩ := AddTo.yes ha had hov
    have e1 : B'.a = B.a := by rw [e]
    have e2 : B'.l = l' := by rw [e]
    have e3 : B'.known = true := by rw [e]; simp
    have hlen : B'.a + (run B'.l B'.a).length = T.length := by
      by_cases hlt : B'.a + (run B'.l B'.a).length < T.length
      · exfalso
        obtain ⟨k, hk⟩ : ∃ k, k = B'.a + (run B'.l B'.a).length := ⟨_, rfl⟩
        have hin : ∃ q ∈ flat B'.l, q.1 = k := by
          by_cases hc : Cov B.l k
          · obtain ⟨q, hq, eq⟩ := flat_cov.2 hc
            refine ⟨q, ?_, eq⟩
            rw [e2]
            refine (flat_perm hp).mem_iff.2 ?_
            rw [flat_append]
            exact List.mem_append_left _ hq
          · refine ⟨(k, T[k]), ?_, rfl⟩
            rw [e2]
            refine (flat_perm hp).mem_iff.2 ?_
            rw [flat_append, news_flat 0 T B.l B.a _ h.ok.srt (by omega)]
            refine List.mem_append_right _ (List.mem_filter.2 ⟨?_, by simp only [decide_eq_true_eq]; exact ⟨by omega, hc⟩⟩)
            have hrow : ∀ (b : Bytes) (o j : Nat) (hj : j < b.length), (o + j, b[j]) ∈ row o b := by
              intro b
              induction b with
              | nil => intro o j hj; simp at hj
              | cons x r ih =>
                intro o j hj
                cases j with
                | zero => simp [row]
                | succ j =>
                  have := ih (o + 1) j (by simpa using hj)
                  simp only [row, List.mem_cons]
                  right
                  rw [show o + (j + 1) = o + 1 + j by omega]
                  exact this
            have := hrow T 0 k (by omega)
            rw [Nat.zero_add] at this
            exact this
        obtain ⟨r, h1, h2⟩ := run_flat B'.l B'.a hok.srt
        obtain ⟨q, hq, eq⟩ := hin
        rw [h1] at hq
        rcases List.mem_append.1 hq with hq | hq
        · have := row_mem hq; omega
        · have := h2 q hq; omega
      · omega
    exact ⟨hlen, e3, hfull hlen, e1⟩
  · have hov : B.over = true := by simpa using hov
    have e : B' = B := AddTo.no ha (fun c => by rw [hov] at c; cases c.2)
    have hk : B.known = true ∧ B.a = B.fin := by
      unfold Bf.over at hov
      rw [h.rs, Bool.false_or, Bool.and_eq_true, decide_eq_true_eq] at hov
      exact hov
    have hlen : B'.a + (run B'.l B'.a).length = T.length := by
      rw [e] at hle ⊢
      have := h.fin hk.1
      omega
    exact ⟨hlen, by rw [e]; exact hk.1, hfull hlen, by rw [e]⟩
theorem Wh.hl_le {T : Bytes} {B : Bf} (h : Wh T B) : hl B.l ≤ T.length := by
  by_cases hn : B.l = []
  · rw [hn]; simp [hl]
  · have h1 := _root_.Go.Proofs.Ytljleaomlooiaaa.M.hl_le h.ok.srt h.ok.stop hn
    have h2 := h.ok.top
    have h3 := h.win
    omega
theorem Wh.a_le {T : Bytes} {B : Bf} (h : Wh T B) : B.a ≤ T.length := by
  have h1 := h.ok.at_
  have h2 := h.ok.top
  have h3 := h.win
  omega
end Go.Proofs.Ytljleaomlooiaaa.M
