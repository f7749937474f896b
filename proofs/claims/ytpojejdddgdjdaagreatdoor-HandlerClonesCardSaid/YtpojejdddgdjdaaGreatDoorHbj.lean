/- Ranging over a map that the call knows as a list of entries: the places that came, in whatever order. Over any program. No condition. handler.Clone: a store as it is, laid in any order. No condition. same: true of two stores that hold alike. No condition. -/
import Derived.Test.YtpojejdddgdjdaaGreatDoorMap
import Derived.Maps.RangeRun
import Derived.BigQuiet
import Derived.Deep.CutBlock
import Derived.Lib.Hide
import Derived.IntWalk
import Derived.Deep.LoopGhost
import Derived.Test.YtpojejdddgdjdaaGreatDoorHbh
import Derived.Test.YtpojejdddgdjdaaGreatDoorHaj
namespace Go.Proofs.YtpojejdddgdjdaaGreatDoor.M
open Go.ChangeShapes Go.WideShapes Go.ChangeAt Go.RowKit

section
open Go.ChangeMaps (setBlock)
variable {P : Program} {κ : Type} {enc : κ → Value} {w w' : World} {r b : Nat} {ents : List (κ × Value)} {S : List Nat}
/-- block r is an iterator over the map at block b, that has handed out the places S -/
def ItAt (w : World) (r b : Nat) (enc : κ → Value) (ents : List (κ × Value)) (S : List Nat) : Prop :=
  ∃ (es : Array MapEntry) (clock since c0 : Nat) (seen : Array Nat), w.heap[b]? = some (.map es clock) ∧ Born es clock ∧ es.toList.map (fun x => (x.key, x.val)) = ents.map (fun x => (enc x.1, x.2)) ∧
    w.heap[r]? = some (.mapIter (some b) since seen c0) ∧ (∀ x ∈ es.toList, x.born < since) ∧ since ≤ c0 ∧ since ≤ clock ∧
    seen.toList = S.map (fun i => ((es[i]?).map (·.born)).getD 0) ∧ (∀ i ∈ S, i < ents.length)
theorem ItAt.keep {M : Nat → Prop} (h : ItAt w r b enc ents S) (f : Frm M w w') (hr : ¬ M r) (hb : ¬ M b) : ItAt w' r b enc ents S := by
  obtain ⟨es, clock, since, c0, seen, h1, h2, h3, h4, h5, h6, h6b, h7, h8⟩ := h
  exact ⟨es, clock, since, c0, seen, (f.block b hb).trans h1, h2, h3, (f.block r hr).trans h4, h5, h6, h6b, h7, h8⟩
theorem ItAt.lt (h : ItAt w r b enc ents S) : r < w.heap.size ∧ b < w.heap.size ∧ r ≠ b := by
  obtain ⟨es, clock, since, c0, seen, h1, h2, h3, h4, _⟩ := h
  refine ⟨(Array.getElem?_eq_some_iff.1 h4).1, (Array.getElem?_eq_some_iff.1 h1).1, fun e => ?_⟩
  subst e
  rw [h1] at h4
  cases h4
theorem ItAt.fresh (h : ItAt w r b enc ents S) (f : Frm (New w) w w') : ItAt w' r b enc ents S :=
  h.keep f (by have := h.lt; unfold New; omega) (by have := h.lt; unfold New; omega)
theorem ItAt.map (h : ItAt w r b enc ents S) : MapIs w b enc ents := by
  obtain ⟨es, clock, since, c0, seen, h1, h2, h3, _⟩ := h
  exact ⟨es, clock, h1, h2, h3⟩
theorem ItAt.born {es : Array MapEntry} {ents : List (κ × Value)} (h : es.toList.map (fun x => (x.key, x.val)) = ents.map (fun x => (enc x.1, x.2))) : es.size = ents.length := by
  have := congrArg List.length h
  simpa using this
/-- range m -/
theorem run_range_is [DecidableEq κ] {t k e : TypeId} (ht : P.underlying t = some (.map k e)) (h : MapIs w b enc ents) :
    ∃ w', (Instr.range t (.map (some b))).run P w = .ok (.pointer (some ⟨w.heap.size, 0, none⟩)) w' ∧ ItAt w' w.heap.size b enc ents [] ∧ Frm (New w) w w' ∧ w'.heap.size = w.heap.size + 1 := by
  have hl := h.lt
  obtain ⟨es, clock, hb, hs, he⟩ := h
  refine ⟨_, run_range_map w t k e b es clock ht hb, ⟨es, clock, clock, clock, #[], ?_, hs, he, heap_alloc_new w _, hs.1, Nat.le_refl _, Nat.le_refl _, rfl, fun i hi => by cases hi⟩, (Frm.refl _ w).alloc Up.new _, by simp⟩
  rw [heap_alloc_old w _ hl]
  exact hb
/-- the next entry, whichever comes -/
theorem run_next_is (h : ItAt w r b enc ents S) (ty : TypeId) :
    ((∀ i, i < ents.length → i ∈ S) ∧ (Instr.next (.pointer (some ⟨r, 0, none⟩)) false ty).run P w = .ok (.tuple #[.bool false]) w) ∨
    ∃ (i : Nat) (hi : i < ents.length) (w' : World), i ∉ S ∧ (Instr.next (.pointer (some ⟨r, 0, none⟩)) false ty).run P w = .ok (.tuple #[.bool true, enc (ents[i]).1, (ents[i]).2]) w' ∧ ItAt w' r b enc ents (S ++ [i]) ∧ Frm (· = r) w w' ∧ w'.heap.size = w.heap.size ∧
      (Instr.entry (.pointer (some ⟨r, 0, none⟩))).run P w' = .ok (.tuple #[enc (ents[i]).1, (ents[i]).2]) w' := by
  obtain ⟨hrl, hbl, hrb⟩ := h.lt
  obtain ⟨es, clock, since, c0, seen, h1, h2, h3, h4, h5, h6, h6b, h7, h8⟩ := h
  have hsz := ItAt.born h3
  rcases run_next_at (P := P) w ty r b since c0 seen es clock h4 h1 h5 h6 with ⟨hz, hrun⟩ | ⟨e, he, w1, hw1, hrun⟩
  · refine .inl ⟨fun i hi => ?_, hrun⟩
    have hi2 : i < es.size := by omega
    have hno : es[i].born ∈ seen.toList := by
      cases hc : seen.contains es[i].born with
      | true => simpa using hc
      | false =>
        have hm : es[i] ∈ leftOf es seen := by
          unfold leftOf
          rw [Array.mem_filter]
          exact ⟨Array.getElem_mem hi2, by rw [hc]; rfl⟩
        have := Array.size_pos_of_mem hm
        omega
    rw [h7] at hno
    obtain ⟨j, hj, hje⟩ := List.mem_map.1 hno
    have hj2 : j < es.size := by have := h8 j hj; omega
    rw [Array.getElem?_eq_getElem hj2] at hje
    simp only [Option.map_some, Option.getD_some] at hje
    have hij : j = i := by
      have hn := h2.2
      have hj3 : j < (es.toList.map (·.born)).length := by simpa using hj2
      have hi3 : i < (es.toList.map (·.born)).length := by simpa using hi2
      exact (List.getElem_inj hn (h₀ := hj3) (h₁ := hi3)).1 (by simpa using hje)
    exact hij ▸ hj
  · have hmem : e ∈ es.toList ∧ seen.contains e.born = false := by
      unfold leftOf at he
      simp only [Array.toList_filter, List.mem_filter] at he
      exact ⟨he.1, by simpa using he.2⟩
    obtain ⟨i, hi2, hie⟩ := List.getElem_of_mem hmem.1
    have hi2' : i < es.size := by simpa using hi2
    have hi : i < ents.length := by omega
    have hie' : es[i] = e := by simpa using hie
    have hk : (e.key, e.val) = (enc ents[i].1, ents[i].2) := by
      have h9 := congrArg (fun l => l[i]?) h3
      simp only [List.getElem?_map, Array.getElem?_toList, Array.getElem?_eq_getElem hi2', List.getElem?_eq_getElem hi, Option.map_some, Option.some.injEq] at h9
      rw [hie'] at h9
      exact h9
    have hk1 : e.key = enc ents[i].1 := congrArg Prod.fst hk
    have hk2 : e.val = ents[i].2 := congrArg Prod.snd hk
    have hb1 : w1.heap = w.heap := by rcases hw1 with rfl | rfl <;> rfl
    have hr' : (setBlock w1 r (.mapIter (some b) since (seen.push e.born) clock)).heap[r]? = some (.mapIter (some b) since (seen.push e.born) clock) := by
      unfold setBlock
      simp only [hb1]
      rw [Array.getElem?_setIfInBounds_self_of_lt hrl]
    have hb' : (setBlock w1 r (.mapIter (some b) since (seen.push e.born) clock)).heap[b]? = some (.map es clock) := by
      unfold setBlock
      simp only [hb1]
      rw [Array.getElem?_setIfInBounds_ne hrb]
      exact h1
    refine .inr ⟨i, hi, _, fun hiS => ?_, ?_, ⟨es, clock, since, clock, seen.push e.born, hb', h2, h3, hr', h5, h6b, h6b, ?_, fun j hj => ?_⟩, ?_, ?_, ?_⟩
    · have : e.born ∈ seen.toList := by
        rw [h7]
        refine List.mem_map.2 ⟨i, hiS, ?_⟩
        rw [Array.getElem?_eq_getElem hi2', hie']
        rfl
      have h9 := hmem.2
      have : seen.contains e.born = true := by simpa using this
      rw [h9] at this
      cases this
    · rw [hrun, hk1, hk2]
    · rw [Array.toList_push, h7, List.map_append]
      simp [Array.getElem?_eq_getElem hi2', hie']
    · rcases List.mem_append.1 hj with hj | hj
      · exact h8 j hj
      · rw [List.mem_singleton.1 hj]; exact hi
    · have ht : w1.os = w.os ∧ w1.tape = w.tape ∧ w1.output = w.output := by rcases hw1 with rfl | rfl <;> exact ⟨rfl, rfl, rfl⟩
      refine ⟨ht.1, ht.2.1, ht.2.2, ?_, fun k hk => ?_⟩
      · show w.heap.size ≤ (setBlock w1 r _).heap.size
        unfold setBlock
        simp [hb1]
      · unfold setBlock
        simp only [hb1]
        rw [Array.getElem?_setIfInBounds_ne (Ne.symm hk)]
    · unfold setBlock
      simp [hb1]
    · rw [run_entry_at (P := P) _ r b since seen es clock e hr' hb' hmem.1 h2.2, hk1, hk2]
variable {ops : Array Oper} {rest : List Oper} {o : Oper} {a : Act} {Q : Exit → Act → World → Prop}
theorem wpList_range_is [DecidableEq κ] (hgd : o.guard = none) {m : Operand} {t k e : TypeId} (ho : o.op = Op.range t m) (ht : P.underlying t = some (.map k e)) (hm : a.eval m = .map (some b)) (h : MapIs w b enc ents)
    (hK : ∀ w', ItAt w' w.heap.size b enc ents [] → Frm (New w) w w' → w'.heap.size = w.heap.size + 1 → wpList P ops Q rest (a.put o.dst (.pointer (some ⟨w.heap.size, 0, none⟩))) w') : wpList P ops Q (o :: rest) a w := by
  refine wpList_plain hgd fun K' hK' => ?_
  obtain ⟨w', hrun, r1, r2, r3⟩ := run_range_is ht h
  unfold Oper.wp
  simp [execOp, ho, hm, hrun, Result.andThen]
  exact hK' _ _ (hK w' r1 r2 r3)
theorem wpList_next_is (hgd : o.guard = none) {it : Operand} (ho : o.op = Op.next it false) (hit : a.eval it = .pointer (some ⟨r, 0, none⟩)) (h : ItAt w r b enc ents S)
    (hDone : (∀ i, i < ents.length → i ∈ S) → wpList P ops Q rest (a.put o.dst (.tuple #[.bool false])) w)
    (hMore : ∀ (i : Nat) (hi : i < ents.length) (w' : World), i ∉ S → ItAt w' r b enc ents (S ++ [i]) → Frm (· = r) w w' → w'.heap.size = w.heap.size → (Instr.entry (.pointer (some ⟨r, 0, none⟩))).run P w' = .ok (.tuple #[enc (ents[i]).1, (ents[i]).2]) w' →
      wpList P ops Q rest (a.put o.dst (.tuple #[.bool true, enc (ents[i]).1, (ents[i]).2])) w') : wpList P ops Q (o :: rest) a w := by
  refine wpList_plain hgd fun K' hK' => ?_
  unfold Oper.wp
  rcases run_next_is (P := P) h o.type with ⟨h0, hrun⟩ | ⟨i, hi, w', hiS, hrun, hit', hf, hs, hen⟩
  · simp [execOp, ho, hit, hrun, Result.andThen]
    exact hK' _ _ (hDone h0)
  · simp [execOp, ho, hit, hrun, Result.andThen]
    exact hK' _ _ (hMore i hi w' hiS hit' hf hs hen)
end
end Go.Proofs.YtpojejdddgdjdaaGreatDoor.M
namespace Go.Proofs.YtpojejdddgdjdaaGreatDoor.M
open Go.ChangeShapes Go.WideShapes Go.ChangeAt Go.RowKit

theorem putE_last {κ α : Type} [DecidableEq κ] (k : κ) (v : α) (l : List (κ × α)) (h : k ∉ l.map (·.1)) : putE k v l = l ++ [(k, v)] := by
  induction l with
  | nil => rfl
  | cons p r ih =>
    rw [List.map_cons, List.mem_cons] at h
    unfold putE
    rw [if_neg (fun e => h (.inl e)), ih (fun e => h (.inr e))]
    rfl
/-- the entries at these places -/
def pick (T : Sto) (S : List Nat) : Sto := S.map (fun i => (T[i]?).getD ([], []))
theorem pick_perm {T : Sto} {S : List Nat} (hn : S.Nodup) (hl : ∀ i ∈ S, i < T.length) (ha : ∀ i, i < T.length → i ∈ S) : (pick T S).Perm T := by
  have hp : S.Perm (List.range T.length) := (List.perm_ext_iff_of_nodup hn List.nodup_range).2 (fun i => by
    rw [List.mem_range]
    exact ⟨hl i, ha i⟩)
  refine (hp.map _).trans (List.Perm.of_eq ?_)
  apply List.ext_getElem?
  intro i
  rw [List.getElem?_map]
  by_cases h : i < T.length
  · rw [List.getElem?_eq_getElem (by simpa using h), List.getElem_range, List.getElem?_eq_getElem h]
    simp [List.getElem?_eq_getElem h]
  · rw [List.getElem?_eq_none (by simpa using h), List.getElem?_eq_none (by omega)]
    rfl
theorem pick_new {T : Sto} {S : List Nat} (hn : (T.map (·.1)).Nodup) (hl : ∀ i ∈ S, i < T.length) {i : Nat} (hi : i < T.length) (hS : i ∉ S) : T[i].1 ∉ (pick T S).map (·.1) := fun h => by
  unfold pick at h
  rw [List.map_map] at h
  obtain ⟨j, hj, hje⟩ := List.mem_map.1 h
  have hj2 := hl j hj
  simp only [Function.comp_def, List.getElem?_eq_getElem hj2, Option.getD_some] at hje
  have hj3 : j < (T.map (·.1)).length := by simpa using hj2
  have hi3 : i < (T.map (·.1)).length := by simpa using hi
  have : j = i := (List.getElem_inj hn (h₀ := hj3) (h₁ := hi3)).1 (by simpa using hje)
  exact hS (this ▸ hj)
theorem nodup_lt {S : List Nat} {n : Nat} (hn : S.Nodup) (hl : ∀ i ∈ S, i < n) : S.length ≤ n := by
  have h := List.Nodup.length_le_of_subset hn (l₂ := List.range n) (fun i hi => List.mem_range.2 (hl i hi))
  rwa [List.length_range] at h
def HCR (w : World) (L : List (Bytes × SV)) (e : Ending) (w' : World) : Prop := ∃ p2 b2 L2, e = .returned (.pointer (some ⟨p2, 0, none⟩)) ∧ KAt w' p2 b2 L2 ∧ (sto L2).Perm (sto L) ∧ w.heap.size ≤ p2 ∧ w.heap.size ≤ b2 ∧ (∀ x ∈ L2, bvs x.2.b ≠ [] → ∀ z, M.blk x.2.A = some z → w.heap.size ≤ z) ∧ Frm (New w) w w'
set_option maxRecDepth 100000 in
set_option maxHeartbeats 4000000 in
theorem hclone_any (w : World) (p b : Nat) (L : List (Bytes × SV)) (hK : KAt w p b L) : Calls Tryz.prog 17 #[.pointer (some ⟨p, 0, none⟩)] w (HCR w L) := by
  have hlp := hK.blk.lt
  have hlb := hK.map.lt
  have hLl := hK.len
  have hne := hK.ne
  have hTl : (sto L).length = L.length := List.length_map _
  have hTn : ((sto L).map (·.1)).Nodup := by
    have e : (sto L).map (·.1) = L.map (·.1) := by unfold sto; rw [List.map_map]; rfl
    rw [e]
    exact hK.nd
  have hel : (entsV L).length = L.length := List.length_map _
  obtain ⟨T, hT⟩ : ∃ T, T = sto L := ⟨_, rfl⟩
  rw [← hT] at hTl hTn
  have HK := Lib.hid hK
  have HTN := Lib.hid hTn
  have HT := Lib.hid hT
  have HEL := Lib.hid hel
  clear hK hTn hT hel
  go_enter Tryz.func17, Tryz.ntmps17
  go_upto_region 2 with (go_at_call 6; refine (new_any _).mono ?_; rintro e w1 ⟨p2, b2, rfl, hK2, hp2, hb2, hF1⟩)
  have hp0 := (HK.out.fresh hF1).blk.cell 0
  simp only [List.getElem?_toArray, List.getElem?_cons_zero] at hp0
  have hM1 := (HK.out.fresh hF1).map
  have hlp1 := Nat.lt_of_lt_of_le hlp hF1.size
  have hl2 := hK2.blk.lt
  have hlb2 := hK2.map.lt
  have hne2 := hK2.ne
  have HM1 := Lib.hid hM1
  have HK2 := Lib.hid hK2
  have HF1 := Lib.hid hF1
  clear hM1 hK2 hF1
  go_wp2_with (at_range; refine wpList_range_is rfl rfl uMp rfl HM1.out ?_; intro w2 hit hF2 hs2; have HIT := Lib.hid hit; have HF2 := Lib.hid hF2; clear hit hF2)
  obtain ⟨r, hr⟩ : ∃ r, r = w1.heap.size := ⟨_, rfl⟩
  rw [← hr] at HIT ⊢
  have hrw : w.heap.size ≤ r := by have := HF1.out.size; omega
  have hrp : r ≠ p2 := by omega
  have hrb : r ≠ b2 := by omega
  clear hr hp0 hlp1 hl2 hlb2 hs2
  have hF02 := HF1.out.then_new Up.new HF2.out
  have hK22 := HK2.out.fresh HF2.out
  clear HF1 HF2 HM1 HK2
  have HF02 := Lib.hid hF02
  have HK22 := Lib.hid hK22
  clear hF02 hK22
  go_frame
  go_loopg [] L.length (fun kk wr => ∃ (S : List Nat) (L2 : List (Bytes × SV)), S.Nodup ∧ S.length + kk = L.length ∧ Hid (∀ i ∈ S, i < L.length) ∧ Hid (sto L2 = pick T S) ∧ Hid (ItAt wr r b str (entsV L) S) ∧ Hid (KAt wr p2 b2 L2) ∧ Hid (∀ x ∈ L2, bvs x.2.b ≠ [] → ∀ z, M.blk x.2.A = some z → w.heap.size ≤ z ∧ z ≠ r) ∧ Hid (Frm (New w) w wr))
  case atStart => exact ⟨[], [], List.nodup_nil, by simp, Lib.hid (fun i h => by cases h), Lib.hid rfl, HIT, HK22, Lib.hid (fun x h => by cases h), HF02⟩
  case round =>
    obtain ⟨S, L2, hSn, hSk, hSl, hST, hIt, hKr, hVr, hFr⟩ := hrel
    rename World => wr
    have hSle := nodup_lt hSn hSl.out
    have hlitr := hIt.out.lt
    go_wp2_with (at_next; refine wpList_next_is rfl rfl rfl hIt.out ?_ ?_)
    · intro hall
      have HALL := Lib.hid hall
      clear hall
      go_wp2_with (fail)
      go_ret
      refine ⟨p2, b2, L2, rfl, hKr.out, ?_, by omega, by omega, fun x hx hn z hz => (hVr.out x hx hn z hz).1, hFr.out⟩
      rw [hST.out, ← HT.out]
      exact pick_perm hSn (fun i hi => by rw [hTl]; exact hSl.out i hi) (fun i hi => HALL.out i (by rw [HEL.out]; omega))
    · intro i hi w3 hiS hit3 hF3 hs3 hen
      have hiL : i < L.length := by rw [← HEL.out]; exact hi
      have hF03 : Frm (New w) w w3 := hFr.out.trans (hF3.mono (fun k hk => by subst hk; exact hrw))
      have hK3 := hKr.out.keep hF3 (fun e => hrp (Eq.symm e)) (fun e => hrb (Eq.symm e)) (fun x hx hn z hz e => (hVr.out x hx hn z hz).2 e)
      have hSl2 := nodup_lt (S := S ++ [i]) (n := L.length) (by
        rw [List.nodup_append]
        exact ⟨hSn, by simp, fun a ha c hc => by rw [List.mem_singleton.1 hc]; exact fun e => hiS (e ▸ ha)⟩) (fun j hj => by
        rcases List.mem_append.1 hj with h | h
        · exact hSl.out j h
        · rw [List.mem_singleton.1 h]; exact hiL)
      rw [List.length_append, List.length_singleton] at hSl2
      have hiT : i < T.length := by omega
      have hTi : T[i]'hiT = (L[i].1, L[i].2.b) := by
        have h1 : T[i]? = (sto L)[i]? := by rw [HT.out]
        unfold sto at h1
        rw [List.getElem?_map, List.getElem?_eq_getElem hiT, List.getElem?_eq_getElem hiL] at h1
        exact Option.some.inj h1
      have hnew := pick_new HTN.out (fun j hj => by rw [hTl]; exact hSl.out j hj) hiT hiS
      have hpk : pick T (S ++ [i]) = pick T S ++ [T[i]] := by
        unfold pick
        rw [List.map_append]
        simp [List.getElem?_eq_getElem hiT]
      have hlv := HK.out.val _ (List.getElem_mem hiL)
      have hls := HK.out.small _ (List.getElem_mem hiL)
      have hlk := HK.out.klen _ (List.getElem_mem hiL)
      rw [← hST.out] at hnew hpk
      rw [hTi] at hnew hpk
      simp only [entsV, List.getElem_map] at hen ⊢
      generalize L[i] = y at *
      obtain ⟨yk, yA, yc, yb⟩ := y
      simp only [SV.v, str] at hen ⊢
      simp only at hnew hpk hlv hls hlk
      have hlv3 := hlv.fresh hF03
      have hp0 := hK3.blk.cell 0
      simp only [List.getElem?_toArray, List.getElem?_cons_zero] at hp0
      have hlp3 := hK3.blk.lt
      have hrl3 := hit3.lt
      have hL2l : L2.length = S.length := by
        have := congrArg List.length hST.out
        unfold sto pick at this
        rwa [List.length_map, List.length_map] at this
      clear hlv
      have HIT3 := Lib.hid hit3
      have HF3 := Lib.hid hF3
      have HF03 := Lib.hid hF03
      have HK3 := Lib.hid hK3
      have HNEW := Lib.hid hnew
      have HPK := Lib.hid hpk
      have HLV3 := Lib.hid hlv3
      have HTI := Lib.hid hTi
      have HIS := Lib.hid hiS
      clear hit3 hF3 hF03 hK3 hnew hpk hlv3 hTi hiS
      go_upto_region 5 with (fail)
      have hS0 : w3.drew.cell? ⟨p2, 0, none⟩ = some (.map (some b2)) ∧ p2 < w3.drew.heap.size := ⟨hp0, hlp3⟩
      refine wp_region_til (by kernel_rfl) (fun w' => w'.cell? ⟨p2, 0, none⟩ = some (.map (some b2)) ∧ p2 < w'.heap.size) 7 ?_
      refine wpAnyT_take (i := 0) (v := ?_) (d := some 17) rfl (by rfl) (by kernel_rfl) (fun _ _ _ h => h) (by rfl) hS0 (fun w hSw => ?_) ?_
      rotate_left
      · (try dsimp only at hSw); go_simp; first | done | (with_reducible rfl)
      simp only [Act.put, List.setIfInBounds_toArray, List.set_cons_zero, List.set_cons_succ]
      refine wpAnyT_take (i := 1) (v := ?_) (d := some 18) rfl (by rfl) (by kernel_rfl) (fun _ _ _ h => h) (by rfl) hS0 (fun w hSw => ?_) ?_
      rotate_left
      · (try dsimp only at hSw); go_simp; first | done | (with_reducible rfl)
      simp only [Act.put, List.setIfInBounds_toArray, List.set_cons_zero, List.set_cons_succ]
      refine wpAnyT_take (i := 2) (v := ?_) (d := some 19) rfl (by rfl) (by kernel_rfl) (fun _ _ _ h => h) (by rfl) hS0 (fun w hSw => ?_) ?_
      rotate_left
      · (try dsimp only at hSw); go_simp; first | done | (with_reducible rfl)
      simp only [Act.put, List.setIfInBounds_toArray, List.set_cons_zero, List.set_cons_succ]
      refine wpAnyT_take (i := 3) (v := ?_) (d := some 20) rfl (by rfl) (by kernel_rfl) (fun _ _ _ h => h) (by rfl) hS0 (fun w hSw => ?_) ?_
      rotate_left
      · (try dsimp only at hSw); go_simp; first | done | (with_reducible rfl)
      simp only [Act.put, List.setIfInBounds_toArray, List.set_cons_zero, List.set_cons_succ]
      refine wpAnyT_take (i := 4) (v := ?_) (d := some 21) rfl (by rfl) (by kernel_rfl) (fun _ _ _ h => h) (by rfl) hS0 (fun w hSw => ?_) ?_
      rotate_left
      · (try dsimp only at hSw); go_simp; first | done | (with_reducible rfl)
      simp only [Act.put, List.setIfInBounds_toArray, List.set_cons_zero, List.set_cons_succ]
      refine wpAnyT_take (i := 5) (v := ?_) (d := some 22) rfl (by rfl) (by kernel_rfl) (fun _ _ _ h => h) (by rfl) hS0 (fun w hSw => ?_) ?_
      rotate_left
      · (try dsimp only at hSw); go_simp; first | done | (with_reducible rfl)
      simp only [Act.put, List.setIfInBounds_toArray, List.set_cons_zero, List.set_cons_succ]
      refine wpAnyT_one (i := 6) rfl (by kernel_rfl) (fun K hKK => ?_)
      refine Eq.mpr (if_pos (by rfl)) ?_
      go_wp2_with (fail)
      refine (bclone_any yA yc yb w3.drew HLV3.out.drew hls).mono ?_
      rintro e w4 ⟨A4, c4, rfl, hA4, hF4⟩
      have hF34 : Frm (New w3) w3 w4 := ((Frm.refl (New w3) w3).drew).trans hF4
      have hK4 := HK3.out.fresh hF34
      have hp4 := hK4.blk.cell 0
      simp only [List.getElem?_toArray, List.getElem?_cons_zero] at hp4
      refine hKK.out _ _ (.inr ⟨hp4, hK4.blk.lt⟩) ?_
      clear hKK K hS0 hp4
      try simp only [Act.put, List.setIfInBounds_toArray, List.set_cons_zero, List.set_cons_succ]
      have hRA4 := hA4.rd
      have hIA4 : ∀ z, M.blk A4 = some z → w3.heap.size ≤ z := hA4.inM
      have hup := run_update skey uMp hK4.map yk (.slice A4 yb.length c4)
      obtain ⟨w5, hru, hM5, hF5, hs5⟩ := hup
      simp only [str] at hru
      have hlb3 := HK3.out.map.lt
      have hgn : (getE yk (sto L2)).isSome = true ∨ L2.length < 64 := .inr (by omega)
      have hK5 := hK4.put yk ⟨A4, c4, yb⟩ hM5 hF5 hRA4 (fun hn z hz e => by have h1 := hIA4 z hz; omega) hls hgn hlk
      have hF35 : Frm (fun z => z = b2 ∨ New w3 z) w3 w5 := (hF34.mono (fun z hz => .inr hz)).trans (hF5.mono (fun z hz => .inl hz))
      have hF05 : Frm (New w) w w5 := HF03.out.trans (hF35.mono (fun z hz => by rcases hz with hz | hz; exact hz ▸ hb2; have := HF03.out.size; unfold New at hz ⊢; omega))
      have hit5 := HIT3.out.keep hF35 (fun e => by rcases e with e | e; exact hrb e; unfold New at e; omega) (fun e => by rcases e with e | e; omega; unfold New at e; omega)
      refine wpAnyT_one (i := 7) rfl (by kernel_rfl) (fun K hKK => ?_)
      refine Eq.mpr (if_pos (by rfl)) ?_
      have HK5 := Lib.hid hK5
      have HF05 := Lib.hid hF05
      have HIT5 := Lib.hid hit5
      have HM5 := Lib.hid hM5
      have HF5 := Lib.hid hF5
      have HRA4 := Lib.hid hRA4
      have HIA4 := Lib.hid hIA4
      have HF34 := Lib.hid hF34
      have HK4 := Lib.hid hK4
      have HF35 := Lib.hid hF35
      have HGN := Lib.hid hgn
      clear hK5 hF05 hit5 hM5 hF5 hRA4 hIA4 hF34 hK4 hF35 hgn
      go_simp
      refine hKK.out _ _ (.inl (by kernel_rfl)) ?_
      clear hKK K hru
      refine wpAnyT_done (by kernel_rfl) ?_ _
      go_wp2_with (fail)
      go_roundg (gk - 1)
      case measure => omega
      case rel =>
        refine ⟨S ++ [i], putE yk ⟨A4, c4, yb⟩ L2, ?_, ?_, Lib.hid ?_, Lib.hid ?_, HIT5, HK5, Lib.hid ?_, HF05⟩
        · rw [List.nodup_append]
          exact ⟨hSn, by simp, fun a ha c hc => by rw [List.mem_singleton.1 hc]; exact fun e => HIS.out (e ▸ ha)⟩
        · rw [List.length_append, List.length_singleton]; omega
        · intro j hj
          rcases List.mem_append.1 hj with h | h
          · exact hSl.out j h
          · rw [List.mem_singleton.1 h]; exact hiL
        · rw [HPK.out, ← putE_last yk yb (sto L2) HNEW.out]
          exact (putE_map (fun x : SV => x.b) yk ⟨A4, c4, yb⟩ L2).symm
        · intro x hx hn z hz
          rcases mem_put hx with rfl | hx
          · have h1 := HIA4.out z hz
            have := HF03.out.size
            exact ⟨by omega, by omega⟩
          · exact hVr.out x hx hn z hz
end Go.Proofs.YtpojejdddgdjdaaGreatDoor.M
namespace Go.Proofs.YtpojejdddgdjdaaGreatDoor.M
open Go.ChangeShapes Go.WideShapes Go.ChangeAt Go.RowKit

theorem rgot_at {L : List (Bytes × SV)} (hs : Srt L) {i : Nat} (hi : i < L.length) : rgot L[i].1 L = some L[i].2 := by
  have hh : Here L[i].1 L := (here_iff hs).2 (List.mem_map.2 ⟨_, List.getElem_mem hi, rfl⟩)
  have hb := here_lt hh
  have hn : (L.map (·.1)).Nodup := hs.imp (fun {a b} (h : a < b) (e : a = b) => lt_ne h e)
  unfold Here at hh
  rw [List.getElem?_map, List.getElem?_eq_getElem hb] at hh
  simp only [Option.map_some, Option.some.injEq] at hh
  have hb2 : before L[i].1 L < (L.map (·.1)).length := by simpa using hb
  have hi2 : i < (L.map (·.1)).length := by simpa using hi
  have e : before L[i].1 L = i := (List.getElem_inj hn (h₀ := hb2) (h₁ := hi2)).1 (by simpa using hh)
  unfold rgot
  rw [e, List.getElem?_eq_getElem hi]
  simp
theorem sto_keys (L : List (Bytes × SV)) : (sto L).map (·.1) = L.map (·.1) := by
  unfold sto
  rw [List.map_map]
  rfl
theorem RAt.srt {w : World} {p c : Nat} {A : Option Addr} {L : List (Bytes × SV)} (h : RAt w p A c L) : Srt (sto L) := by
  unfold Srt
  rw [sto_keys]
  exact h.nd
set_option maxRecDepth 100000 in
set_option maxHeartbeats 4000000 in
theorem same_any (w : World) (p b : Nat) (L : List (Bytes × SV)) (hK : KAt w p b L) (p2 c : Nat) (A : Option Addr) (L2 : List (Bytes × SV)) (hR : RAt w p2 A c L2) (hp : (sto L2).Perm (sto L)) :
    Calls Tryz.prog 18 #[.pointer (some ⟨p, 0, none⟩), .pointer (some ⟨p2, 0, none⟩)] w fun e w' => e = .returned (.bool true) ∧ Frm (New w) w w' := by
  have hky := keys_any w p b L hK
  have hrk : ∀ w', Frm (New w) w w' → Calls Tryz.prog 39 #[.pointer (some ⟨p2, 0, none⟩)] w' (RKR w' L2) := fun w' f => rkeys_any w' p2 A c L2 (hR.fresh f)
  have hks := keys_sorted hp hR.srt
  rw [sto_keys, sto_keys] at hks
  rw [hks] at hky
  have hll : L.length = L2.length := by
    have := hp.length_eq
    unfold sto at this
    rw [List.length_map, List.length_map] at this
    exact this.symm
  rw [hll] at hky
  have hl64 := hR.len
  have hkl : (L2.map (·.1)).length = L2.length := List.length_map _
  have hst := fun (X Y : Option Addr) (x y : Nat) (w' : World) (h1 : Rd w' X (svs (L2.map (·.1)))) (h2 : Rd w' Y (svs (L2.map (·.1)))) => strings_eq (L2.map (·.1)) X Y x y w' h1 h2 (by rw [hkl]; omega)
  rw [hkl] at hst
  have hge : ∀ (k : Bytes) (w' : World), Frm (New w) w w' → Calls Tryz.prog 20 #[.pointer (some ⟨p, 0, none⟩), .string ⟨k.toArray⟩] w' fun e w2 => ∃ A c, e = .returned (.tuple #[.slice A ((getE k (sto L)).getD []).length c, .bool (getE k (sto L)).isSome]) ∧ Rd w2 A (bvs ((getE k (sto L)).getD [])) ∧ Frm (New w') w' w2 := fun k w' f => get_any k w' p b L (hK.fresh f)
  have hrg : ∀ (k : Bytes) (w' : World), Frm (New w) w w' → Calls Tryz.prog 40 #[.pointer (some ⟨p2, 0, none⟩), .string ⟨k.toArray⟩] w' fun e w2 => e = .returned (.tuple #[((rgot k L2).map SV.v).getD (.slice none 0 0), .bool (rgot k L2).isSome]) ∧ ∃ q, w2 = w'.drewN q := fun k w' f => rget_any k w' p2 A c L2 (hR.fresh f)
  have hat : ∀ (i : Nat) (hi : i < L2.length), rgot L2[i].1 L2 = some L2[i].2 ∧ getE L2[i].1 (sto L) = some L2[i].2.b := fun i hi => by
    refine ⟨rgot_at hR.nd hi, ?_⟩
    have hn : ((sto L2).map (·.1)).Nodup := hR.srt.imp (fun {a b} (h : a < b) (e : a = b) => lt_ne h e)
    rw [← getE_perm hp hn]
    exact getE_of_mem hn (List.mem_map.2 ⟨_, List.getElem_mem hi, rfl⟩)
  have HKY := Lib.hid hky
  have HRK := Lib.hid hrk
  have HST := Lib.hid hst
  have HGE := Lib.hid hge
  have HRG := Lib.hid hrg
  have HAT := Lib.hid hat
  have HR := Lib.hid hR
  have HK := Lib.hid hK
  clear hky hrk hst hge hrg hat hR hK
  go_enter Tryz.func18, Tryz.ntmps18
  go_upto_region 5 with (first
    | (go_at_call 23; refine HKY.out.mono ?_; rintro e w1 ⟨A1, c1, rfl, hR1, hF1⟩)
    | (go_at_call 39; refine (HRK.out _ hF1).mono ?_; rintro e w2 ⟨A2, c2, rfl, hR2, hF2⟩)
    | (go_at_call 22; refine (HST.out _ _ _ _ _ (hR1.fresh hF2) hR2).mono ?_; rintro e w3 ⟨rfl, hF3⟩))
  have hR3 := (hR1.fresh hF2).fresh hF3
  have hF03 := (hF1.then_new Up.new hF2).then_new Up.new hF3
  clear hR1 hR2 hF1 hF2 hF3 HKY HRK HST
  have HR3 := Lib.hid hR3
  have HF03 := Lib.hid hF03
  clear hR3 hF03
  go_loopw [6] (fun v6 wr => ∃ i : Nat, i ≤ L2.length ∧ v6 = .int .i64 i ∧ Hid (Frm (New w3) w3 wr)) (fun v6 _ => L2.length - (intOf v6).toNat)
  case atStart => exact ⟨0, Nat.zero_le _, rfl, Lib.hid (Frm.refl _ _)⟩
  case round =>
    obtain ⟨i, hi, rfl, hFr⟩ := hrel
    rename World => wr
    by_cases hlt : i < L2.length
    · obtain ⟨g, off, rfl, hc0⟩ := (HR3.out.fresh hFr.out).at_ (k := i) (by unfold svs; rw [List.length_map, hkl]; exact hlt)
      obtain ⟨e1, e2⟩ := HAT.out i hlt
      have hF0 := HF03.out.then_new Up.new hFr.out
      have hge1 := HGE.out L2[i].1 wr hF0
      have hrg1 := fun w' f => HRG.out L2[i].1 w' f
      rw [e2] at hge1
      rw [e1] at hrg1
      simp only [svs, List.getElem_map, str] at hc0
      have hyv := HR.out.val _ (List.getElem_mem hlt)
      have hg := World.block_lt_of_cell? _ _ hc0
      simp only at hg
      clear e1 e2
      generalize L2[i] = y at *
      obtain ⟨yk, yA, yc, yb⟩ := y
      simp only [Option.map_some, Option.getD_some, Option.isSome_some, SV.v] at hge1 hrg1 hyv
      have hcw : ∀ w', Frm (New wr) wr w' → w'.cell? ⟨g, off + i, none⟩ = some (.string ⟨yk.toArray⟩) ∧ g < w'.heap.size := fun w' f => ⟨by rw [f.cell (p := ⟨g, off + i, none⟩) (by unfold New; simp only; omega)]; exact hc0, Nat.lt_of_lt_of_le hg f.size⟩
      have HGE1 := Lib.hid hge1
      have HRG1 := Lib.hid hrg1
      have HYV := Lib.hid hyv
      have HF0 := Lib.hid hF0
      have HCW := Lib.hid hcw
      clear hge1 hrg1 hyv hF0 hcw
      go_upto_region 8 with (go_at_call 20; refine HGE1.out.mono ?_; rintro e w4 ⟨A4, c4, rfl, hR4, hF4⟩)
      obtain ⟨hc4, hg4⟩ := HCW.out w4 hF4
      clear hc0 hg
      have hF04 := HF0.out.then_new Up.new hF4
      have hF34 := hFr.out.then_new Up.new hF4
      have hy4 := HYV.out.fresh hF04
      have HR4 := Lib.hid hR4
      have HF04 := Lib.hid hF04
      have HF34 := Lib.hid hF34
      have HY4 := Lib.hid hy4
      clear hR4 hF04 hF34 hy4
      go_upto_region 9 with (go_at_call 40; refine (HRG1.out _ HF04.out).mono ?_; rintro e w5 ⟨rfl, q5, rfl⟩)
      have hF35 := HF34.out.drewN q5
      have hRa := HR4.out.drewN q5
      have hRb := HY4.out.drewN q5
      have hcva := run_conv (c := c4) hRa
      have hcvb := run_conv (c := yc) hRb
      simp only [str] at hcva hcvb
      clear hc4 hg4
      generalize w4.drewN q5 = w5 at *
      have HF35 := Lib.hid hF35
      have HRA := Lib.hid hRa
      have HRB := Lib.hid hRb
      clear hF35 hRa hRb
      go_wp2_with (fail)
      go_roundw
      case rel => exact ⟨i + 1, by omega, by go_num, HF35⟩
      case measure => simp [intOf]; omega
    · obtain rfl : i = L2.length := by omega
      have hF0 := HF03.out.then_new Up.new hFr.out
      have HF0 := Lib.hid hF0
      clear hF0
      go_wp2_with (fail)
      go_ret
      exact ⟨rfl, HF0.out⟩
end Go.Proofs.YtpojejdddgdjdaaGreatDoor.M
