/- What the table holds behind Encode is not secret; append onto nil; a row of fields that is written. No condition. -/
import Derived.Test.YtcebckkpablagaaEnce
namespace Go.Proofs.Ytcebckkpablagaa.M
open Go.ChangeShapes Go.WideShapes Go.ChangeAt Go.RowKit

theorem evict_mem (room cap : Nat) (l : List Fld) (f : Fld) (h : f ∈ evict room cap l) : f ∈ l := by
  obtain ⟨k, _, e⟩ := evict_drop room cap l
  rw [e] at h
  exact List.mem_of_mem_drop h
theorem add_mem (T : Tb) (x f : Fld) (h : f ∈ (T.add x).l) : f ∈ T.l ∨ f = x := by
  unfold Tb.add at h
  split at h
  · rcases List.mem_append.1 h with h | h
    · exact .inl (evict_mem _ _ _ _ h)
    · exact .inr (by simpa using h)
  · cases h
theorem oneT_secret (T : Tb) (x : Fld) (h : ∀ f ∈ T.l, secret f.1 = false) : ∀ f ∈ (oneT T x).l, secret f.1 = false := by
  intro f hf
  unfold oneT at hf
  split at hf
  · exact h f hf
  · split at hf
    · exact h f hf
    · rename_i hs
      split at hf
      · exact h f hf
      · rcases add_mem _ _ _ hf with c | c
        · exact h f c
        · rw [c]; simpa using hs
theorem linesT_secret : ∀ (fs : List Fld) (T : Tb), (∀ f ∈ T.l, secret f.1 = false) → ∀ f ∈ (linesT T fs).l, secret f.1 = false
  | [], _, h => h
  | x :: fs, T, h => linesT_secret fs (oneT T x) (oneT_secret T x h)

/-- append(nil, xs...) -/
theorem run_append_nil {P : Program} {t e : TypeId} {size bytes : Nat} (E : Elem P t e size bytes) (w : World) (ty : TypeId) {B : Option Addr} {m d : Nat} {news : List Value} (hm : 0 < m) (hB : Rd w B news) (hl : news.length = m * size) (hbytes : m * bytes ≤ 140737488355328) :
    ∃ c' cs w', (Builtin.append_ #[t, t] ty #[.slice none 0 0, .slice B m d]).run P w = .ok (.slice (some ⟨w.heap.size, 0, none⟩) m c') w' ∧ Blk w' w.heap.size e cs ∧ (∃ tail, cs.toList = news ++ tail) ∧ Frm (New w) w w' ∧ m ≤ c' ∧ c' ≤ maxLen := by
  obtain ⟨i, z, hi, hz, hs, hb, hzs⟩ := E.info
  subst hs
  subst hb
  have h63 : m ≤ maxLen := E.max hbytes
  have hsmall : m ≤ 9223372036854775807 := by simp only [maxLen] at h63; omega
  have hfit : Builtin.nextslicecap (0 + m) 0 * i.bytes ≤ 281474976710656 := growslice_fits (by omega) (by simpa using hbytes)
  simp only [Nat.zero_add] at hfit
  have hge := grownCap_ge w m 0 e
  have hcm : grownCap w m 0 e ≤ maxLen := grownCap_le_maxLen w m 0 e h63
  refine ⟨grownCap w m 0 e, news.toArray ++ Builtin.zeroCells z.cells (grownCap w m 0 e - m), w.drew.alloc (.cells (news.toArray ++ Builtin.zeroCells z.cells (grownCap w m 0 e - m)) e), ?_, Blk.new w.drew e _, ⟨_, by simp; rfl⟩, (Frm.refl _ w).drew.alloc Up.new _, hge, hcm⟩
  have h63' : ¬ (9223372036854775807 < (m : Int)) := by omega
  have h48' : ¬ (281474976710656 < Builtin.nextslicecap m 0 * i.bytes) := by omega
  have hxc' : (Builtin.firstCells i.size m (.slice B m d)).run P w.drew = .ok news.toArray w.drew := run_first w.drew i.size m d B news hl hB.drew
  have hxl' : (Builtin.lenOf (.slice B m d)).run P w = .ok m w := rfl
  have hfo : (Builtin.firstCells i.size 0 (.slice none 0 0)).run P w.drew = .ok #[] w.drew := run_first w.drew i.size 0 0 none [] (by simp) Rd.nil
  have hnz : m ≠ 0 := by omega
  simp [Builtin.append_, run_underlying E.ht, sizeOf, typeInfo, zeroValue, hi, hz, Question.forced, newRow, grownCap, hnz, h63', h48', hxl', hxc', hfo]

theorem wpList_append_nil {P : Program} {ops : Array Oper} {rest : List Oper} {o : Oper} {a : Act} {Q : Exit → Act → World → Prop} {w : World} {t e : TypeId} {size bytes : Nat} (E : Elem P t e size bytes) (hgd : o.guard = none) {s x : Operand}
    (ho : o.op = .call { callee := .builtin .append, args := #[s, x], argTypes := #[t, t] }) (hs : a.eval s = .slice none 0 0) {B : Option Addr} {m d : Nat} {news : List Value} (hx : a.eval x = .slice B m d) (hm : 0 < m) (hB : Rd w B news) (hl : news.length = m * size)
    (hbytes : m * bytes ≤ 140737488355328)
    (h : ∀ c' cs w', Blk w' w.heap.size e cs → (∃ tail, cs.toList = news ++ tail) → Frm (New w) w w' → m ≤ c' → c' ≤ maxLen → wpList P ops Q rest (a.put o.dst (.slice (some ⟨w.heap.size, 0, none⟩) m c')) w') :
    wpList P ops Q (o :: rest) a w := by
  refine wpList_plain hgd fun _ hK => ?_
  obtain ⟨c', cs, w', hr, h1, h2, h3, h4, h5⟩ := run_append_nil E w o.type hm hB hl hbytes (d := d)
  unfold Oper.wp execOp
  simp only [ho, resolve, invoke, builtin, Sem.run_bind, Sem.run_pure, Result.andThen_ok, List.map_toArray, List.map_cons, List.map_nil, hs, hx, hr]
  exact hK _ _ (h _ _ _ h1 h2 h3 h4 h5)

/-- block g begins with the fields ms -/
def FB (w : World) (g : Nat) (ms : List Fld) : Prop := ∃ cs tail, Blk w g 30 cs ∧ cs.toList = fvs ms ++ tail
theorem FB.rd {w : World} {g : Nat} {ms : List Fld} (h : FB w g ms) : Rd w (some ⟨g, 0, none⟩) (fvs ms) := by
  obtain ⟨cs, tail, hb, e⟩ := h
  intro j u hu
  have hr := hb.rd
  rw [e] at hr
  exact hr j u (by rw [List.getElem?_append_left (List.getElem?_eq_some_iff.1 hu).1]; exact hu)
theorem FB.fresh {w w' : World} {g : Nat} {ms : List Fld} (h : FB w g ms) (f : Frm (New w) w w') : FB w' g ms := by
  obtain ⟨cs, tail, hb, e⟩ := h
  exact ⟨cs, tail, hb.fresh f, e⟩
theorem FB.frozen {w : World} {g : Nat} {ms : List Fld} (h : FB w g ms) (i : Nat) : w.frozen? ⟨g, i, none⟩ = false := by
  obtain ⟨cs, tail, hb, e⟩ := h
  exact hb.frozen i
theorem FB.lt {w : World} {g : Nat} {ms : List Fld} (h : FB w g ms) : g < w.heap.size := by
  obtain ⟨cs, tail, hb, e⟩ := h
  exact hb.lt
theorem fvs_set : ∀ (ms : List Fld) (i : Nat) (s : Bytes) (h : i < ms.length), (fvs ms).set (i * 2) (str s) = fvs (ms.set i (s, ms[i].2))
  | [], i, s, h => by simp at h
  | p :: ms, 0, s, h => by simp [fvs]
  | p :: ms, i + 1, s, h => by
    have := fvs_set ms i s (by simpa using h)
    simp only [fvs, List.flatMap_cons, List.set_cons_succ, List.getElem_cons_succ] at this ⊢
    rw [show (i + 1) * 2 = i * 2 + 1 + 1 from by omega]
    simp only [List.cons_append, List.nil_append, List.set_cons_succ, this]
theorem FB.set_ {w : World} {g : Nat} {ms : List Fld} (h : FB w g ms) (i : Nat) (s : Bytes) (hi : i < ms.length) : FB (w.setCell ⟨g, i * 2, none⟩ (str s)) g (ms.set i (s, ms[i].2)) := by
  obtain ⟨cs, tail, hb, e⟩ := h
  refine ⟨_, tail, hb.set_ (i * 2) (str s), ?_⟩
  rw [Array.toList_setIfInBounds, e, List.set_append_left _ _ (by rw [fvs_length]; omega), fvs_set ms i s hi]
theorem fsizes_set (ms : List Fld) (i : Nat) (s : Bytes) (hi : i < ms.length) : fsizes (ms.set i (s, ms[i].2)) ≤ fsizes ms + s.length := by
  induction ms generalizing i with
  | nil => simp at hi
  | cons p ms ih =>
    cases i with
    | zero => simp only [List.set_cons_zero, List.getElem_cons_zero, fsizes_cons, fsize]; omega
    | succ i =>
      have := ih i (by simpa using hi)
      simp only [List.set_cons_succ, List.getElem_cons_succ, fsizes_cons] at this ⊢
      omega
end Go.Proofs.Ytcebckkpablagaa.M
