/- qenc: waiting. -/
import Derived.BigQuiet
import Derived.Deep.CutBlock
import Derived.Lib.Hide
import Derived.IntWalk
import Derived.Deep.LoopGhost
import Derived.Test.YtdgggjeiflllhaaNa
import Derived.Test.YtdgggjeiflllhaaMap
namespace Go.Proofs.Ytdgggjeiflllhaa.M
open Go.ChangeShapes Go.WideShapes Go.ChangeAt Go.RowKit

theorem nodup_le {α : Type} [DecidableEq α] : ∀ (a b : List α), a.Nodup → (∀ x ∈ a, x ∈ b) → a.length ≤ b.length
  | [], _, _, _ => Nat.zero_le _
  | x :: r, b, hn, hs => by
    have hn' := List.nodup_cons.1 hn
    have hx := hs x (List.mem_cons_self ..)
    have h1 := nodup_le r (b.erase x) hn'.2 (fun y hy => (List.mem_erase_of_ne (fun e => by subst e; exact hn'.1 hy)).2 (hs y (List.mem_cons_of_mem _ hy)))
    have h2 := List.length_erase_of_mem hx
    have h3 : 0 < b.length := List.length_pos_of_mem hx
    simp only [List.length_cons]
    omega
theorem firsts_nodup : ∀ (l : List Qs) (seen : List Nat), (firsts l seen).Nodup ∧ ∀ s, s ∈ firsts l seen ↔ s ∉ seen ∧ ∃ o ∈ l, o.stream = s
  | [], seen => ⟨List.nodup_nil, fun s => ⟨fun h => (by cases h), fun h => by obtain ⟨_, o, ho, _⟩ := h; cases ho⟩⟩
  | o :: r, seen => by
    unfold firsts
    by_cases h : o.stream ∈ seen
    · rw [if_pos h]
      obtain ⟨h1, h2⟩ := firsts_nodup r seen
      refine ⟨h1, fun s => (h2 s).trans ⟨fun q => ⟨q.1, by obtain ⟨_, x, hx, e⟩ := q; exact ⟨x, List.mem_cons_of_mem _ hx, e⟩⟩, fun q => ⟨q.1, ?_⟩⟩⟩
      obtain ⟨hs, x, hx, e⟩ := q
      rcases List.mem_cons.1 hx with e2 | e2
      · subst e2; exact absurd (e ▸ h) hs
      · exact ⟨x, e2, e⟩
    · rw [if_neg h]
      obtain ⟨h1, h2⟩ := firsts_nodup r (o.stream :: seen)
      refine ⟨List.nodup_cons.2 ⟨fun q => ((h2 _).1 q).1 (List.mem_cons_self ..), h1⟩, fun s => ⟨fun q => ?_, fun q => ?_⟩⟩
      · rcases List.mem_cons.1 q with e | e
        · exact ⟨e ▸ h, o, List.mem_cons_self .., e.symm⟩
        · obtain ⟨q1, x, hx, e⟩ := (h2 s).1 e
          exact ⟨fun z => q1 (List.mem_cons_of_mem _ z), x, List.mem_cons_of_mem _ hx, e⟩
      · obtain ⟨q1, x, hx, e⟩ := q
        by_cases hso : s = o.stream
        · rw [hso]; exact List.mem_cons_self ..
        · refine List.mem_cons_of_mem _ ((h2 s).2 ⟨fun z => ?_, ?_⟩)
          · rcases List.mem_cons.1 z with z | z
            · exact hso z
            · exact q1 z
          · rcases List.mem_cons.1 hx with z | z
            · subst z; exact absurd e.symm hso
            · exact ⟨x, z, e⟩
/-- any list of all streams, each once, tells how many are blocked -/
theorem many_keys (E : Qn) (ks : List Nat) (hn : ks.Nodup) (hm : ∀ s, s ∈ ks ↔ ∃ o ∈ E.opn, o.stream = s) : (ks.filter E.stuck).length = E.many := by
  unfold Qn.many
  obtain ⟨h1, h2⟩ := firsts_nodup E.opn []
  have h3 : ∀ s, s ∈ ks ↔ s ∈ firsts E.opn [] := fun s => (hm s).trans ⟨fun q => (h2 s).2 ⟨by simp, q⟩, fun q => ((h2 s).1 q).2⟩
  refine Nat.le_antisymm (nodup_le _ _ (hn.filter _) (fun x hx => ?_)) (nodup_le _ _ (h1.filter _) (fun x hx => ?_))
  · rw [List.mem_filter] at hx ⊢; exact ⟨(h3 x).1 hx.1, hx.2⟩
  · rw [List.mem_filter] at hx ⊢; exact ⟨(h3 x).2 hx.1, hx.2⟩
theorem QnM.keys {X S : Nat → Prop} {w : World} {pe g bm cr : Nat} {Ar : Option Addr} {L : List (Nat × Ro)} {E : Qn} (h : QnM X w pe g bm S Ar cr L E) : ((L.map (·.1)).filter E.stuck).length = E.many :=
  many_keys E _ h.nd (fun s => ⟨fun hs => by
    obtain ⟨x, hx, rfl⟩ := List.mem_map.1 hs
    have h1 := h.same x hx
    have h2 := (h.rows x hx).ne
    cases hl : x.2.l with
    | nil => exact absurd hl h2
    | cons y r =>
      rw [hl, List.map_cons] at h1
      have : y.1 ∈ E.opn.filter fun o => decide (o.stream = x.1) := by rw [← h1]; exact List.mem_cons_self ..
      rw [List.mem_filter] at this
      exact ⟨y.1, this.1, of_decide_eq_true this.2⟩, fun hs => by
    obtain ⟨o, ho, rfl⟩ := hs
    exact h.all o ho⟩)
/-- the places that came, all of them: as many are blocked as there are -/
theorem all_places (f : Nat → Bool) (ks : List Nat) (P : List Nat) (hn : P.Nodup) (hall : ∀ i, i < ks.length → i ∈ P) (hlt : ∀ i ∈ P, i < ks.length) : (P.filter fun i => f (ks.getD i 0)).length = (ks.filter f).length := by
  have h1 : (P.filter fun i => f (ks.getD i 0)).length = ((List.range ks.length).filter fun i => f (ks.getD i 0)).length :=
    Nat.le_antisymm (nodup_le _ _ (hn.filter _) (fun x hx => by rw [List.mem_filter] at hx ⊢; exact ⟨List.mem_range.2 (hlt x hx.1), hx.2⟩))
      (nodup_le _ _ (List.nodup_range.filter _) (fun x hx => by rw [List.mem_filter] at hx ⊢; exact ⟨hall x (List.mem_range.1 hx.1), hx.2⟩))
  rw [h1]
  have h2 : ks = (List.range ks.length).map (fun i => ks.getD i 0) := by
    apply List.ext_getElem
    · simp
    · intro i h3 h4
      simp [List.getD, List.getElem?_eq_getElem h3]
  conv => rhs; rw [h2, List.filter_map, List.length_map]
  rfl
set_option maxRecDepth 100000 in
set_option maxHeartbeats 4000000 in
theorem nwaiting_any {X S : Nat → Prop} {w : World} {pe g bm cr : Nat} {Ar : Option Addr} {L : List (Nat × Ro)} {E : Qn} (h : QnM X w pe g bm S Ar cr L E) (hL : L.length ≤ 4611686018427387903) :
    Calls Try.prog 118 #[.pointer (some ⟨pe, 0, none⟩)] w fun e w' => e = .returned (.int .i64 (E.many : Nat)) ∧ Frm (New w) w w' := by
  have hkeys := h.keys
  have hb := h.blk
  have hy3 := hb.cell 3
  simp only [List.getElem?_toArray, List.getElem?_cons_zero, List.getElem?_cons_succ] at hy3
  have hpl := hb.lt
  have hel : (entsR L).length = L.length := by unfold entsR; rw [List.length_map]
  have hmap := h.map
  have H := Lib.hid h
  have HB := Lib.hid hb
  have HKEYS := Lib.hid hkeys
  have HEL := Lib.hid hel
  have HMAP := Lib.hid hmap
  clear h hb hkeys hel hmap
  go_enter Try.func118, Try.ntmps118
  obtain ⟨w2, hrun, HIT, HF2, hs2⟩ := run_range_is uMo HMAP.out
  have HIT' := Lib.hid HIT
  have HF2' := Lib.hid HF2
  clear HIT HF2
  go_wp2_with (fail)
  clear hrun
  obtain ⟨r, hr⟩ : ∃ r, r = w.heap.size := ⟨_, rfl⟩
  rw [← hr] at HIT' ⊢
  have hrw : w.heap.size ≤ r := by omega
  clear hr hs2
  go_loopg [3] L.length (fun kk v3 wx => ∃ (P : List Nat) (n : Nat), v3 = .int .i64 (n : Int) ∧ P.Nodup ∧ P.length + kk = L.length ∧ n ≤ P.length ∧ Hid (∀ i ∈ P, i < L.length) ∧ Hid (n = (P.filter fun i => E.stuck ((L.map (·.1)).getD i 0)).length) ∧ Hid (ItAt wx r bm ukey (entsR L) P) ∧ Hid (Frm (New w) w wx))
  case atStart => exact ⟨[], 0, rfl, List.nodup_nil, by simp, Nat.le_refl _, Lib.hid (fun i h => by cases h), Lib.hid rfl, HIT', HF2'⟩
  case round =>
    clear HIT' HF2'
    obtain ⟨P, n, rfl, hPn, hPk, hnP, hPl, hnE, hIt, hF⟩ := hrel
    rename World => wx
    rcases run_next_is (P := Try.prog) hIt.out 0 with ⟨hall, hnx⟩ | ⟨i, hi, w3, hiP, hnx, hit3, hF3, hs3, hen⟩
    · have HALL := Lib.hid hall
      clear hall
      go_wp2_with (fail)
      go_ret
      refine ⟨?_, hF.out⟩
      rw [hnE.out, all_places E.stuck (L.map (·.1)) P hPn (fun i hi => HALL.out i (by rw [HEL.out]; simpa using hi)) (fun i hi => by simpa using hPl.out i hi), HKEYS.out]
      rfl
    · have hiL : i < L.length := by rw [← HEL.out]; exact hi
      have hF03 : Frm (New w) w w3 := hF.out.trans (hF3.mono (fun k hk => by subst hk; exact hrw))
      have hPn2 : (P ++ [i]).Nodup := by
        rw [List.nodup_append]
        exact ⟨hPn, by simp, fun a ha c hc => by rw [List.mem_singleton.1 hc]; exact fun e => hiP (e ▸ ha)⟩
      have hPl2 : ∀ j ∈ P ++ [i], j < L.length := fun j hj => by
        rcases List.mem_append.1 hj with q | q
        · exact hPl.out j q
        · rw [List.mem_singleton.1 q]; exact hiL
      have hle : P.length < L.length := by
        have := nodup_le (P ++ [i]) (List.range L.length) hPn2 (fun j hj => List.mem_range.2 (hPl2 j hj))
        rw [List.length_append, List.length_range, List.length_singleton] at this
        omega
      have hkey : (L.map (·.1)).getD i 0 = L[i].1 := by simp [List.getD, List.getElem?_eq_getElem hiL]
      have hfl : ((P ++ [i]).filter fun i => E.stuck ((L.map (·.1)).getD i 0)).length = n + (if E.stuck L[i].1 then 1 else 0) := by
        rw [List.filter_append, List.length_append, ← hnE.out, List.filter_cons, hkey]
        cases E.stuck L[i].1 <;> rfl
      simp only [entsR, List.getElem_map] at hen hnx
      generalize L[i] = y at *
      obtain ⟨ys, yx⟩ := y
      simp only [Ro.v, ukey] at hen hnx hfl
      have hwt := nwaits_any (H.out.fresh hF03) ys
      clear hkey hF3 hs3 hi
      have HPL2 := Lib.hid hPl2
      have HIT3 := Lib.hid hit3
      have HF03 := Lib.hid hF03
      have HPN2 := Lib.hid hPn2
      clear hPl2 hit3 hF03 hPn2
      cases hst : E.stuck ys with
      | true =>
        rw [hst] at hwt hfl
        have HWT := Lib.hid hwt
        have HFL := Lib.hid hfl
        clear hwt hfl
        go_wp2_with (fail)
        refine HWT.out.mono ?_
        rintro e w4 ⟨rfl, hF4⟩
        have HF04 := Lib.hid (HF03.out.then_new Up.new hF4)
        have HIT4 := Lib.hid (HIT3.out.fresh hF4)
        clear hF4 hnx hen
        go_wp2
        go_roundg (gk - 1)
        case measure => omega
        case rel => exact ⟨P ++ [i], n + 1, by rw [Int.natCast_add]; rfl, HPN2.out, by rw [List.length_append, List.length_singleton]; omega, by rw [List.length_append, List.length_singleton]; omega, HPL2, Lib.hid (by rw [HFL.out]; rfl), HIT4, HF04⟩
      | false =>
        rw [hst] at hwt hfl
        have HWT := Lib.hid hwt
        have HFL := Lib.hid hfl
        clear hwt hfl
        go_wp2_with (fail)
        refine HWT.out.mono ?_
        rintro e w4 ⟨rfl, hF4⟩
        have HF04 := Lib.hid (HF03.out.then_new Up.new hF4)
        have HIT4 := Lib.hid (HIT3.out.fresh hF4)
        clear hF4 hnx hen
        go_wp2
        go_roundg (gk - 1)
        case measure => omega
        case rel => exact ⟨P ++ [i], n, rfl, HPN2.out, by rw [List.length_append, List.length_singleton]; omega, by rw [List.length_append, List.length_singleton]; omega, HPL2, Lib.hid (by rw [HFL.out]; rfl), HIT4, HF04⟩
end Go.Proofs.Ytdgggjeiflllhaa.M
