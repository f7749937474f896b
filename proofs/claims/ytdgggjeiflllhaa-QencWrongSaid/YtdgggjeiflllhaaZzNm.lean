/- Nm -/
import Derived.BigQuiet
import Derived.Deep.CutBlock
import Derived.Lib.Hide
import Derived.IntWalk
import Derived.Deep.LoopGhost
import Derived.Test.YtdgggjeiflllhaaZzNp
import Derived.Test.YtdgggjeiflllhaaZzQm
import Derived.Test.YtdgggjeiflllhaaZzGin
import Derived.Test.YtdgggjeiflllhaaZzMap

namespace Go.Proofs.Ytdgggjeiflllhaa.M
open Go.ChangeShapes Go.WideShapes Go.ChangeAt Go.RowKit
structure UseM (w : World) (b : Nat) (us : List Nat) (ents : List (Nat × Value)) : Prop where
  map : MapIs w b ukey ents
  pos : ∀ x ∈ ents, ∃ v : Int, 0 < v ∧ v ≤ (us.length : Int) ∧ x.2 = .int .i64 v
  mem : ∀ p, p ∈ us ↔ p ∈ ents.map (·.1)
structure Ro where
  A : Option Addr
  c : Nat
  l : List (Qs × Nat)
def Ro.v (x : Ro) : Value := .slice x.A x.l.length x.c
def secC (l : List (Qs × Nat)) : List Value := l.flatMap fun x => [.int .u64 x.1.count, .map (some x.2)]
theorem secC_len (l : List (Qs × Nat)) : (secC l).length = l.length * 2 := by
  induction l with
  | nil => rfl
  | cons x r ih => unfold secC at ih ⊢; rw [List.flatMap_cons, List.length_append, ih]; simp; omega
def entsR (L : List (Nat × Ro)) : List (Nat × Value) := L.map fun x => (x.1, x.2.v)
structure RoM (X : Nat → Prop) (w : World) (x : Ro) : Prop where
  app : App X w 84 2 x.A x.l.length x.c (secC x.l)
  use_ : ∀ y ∈ x.l, X y.2 ∧ ∃ ents, UseM w y.2 y.1.uses ents
  ne : x.l ≠ []
  small : ∀ y ∈ x.l, y.1.count ≤ 1152921504606846976
structure QnM (X : Nat → Prop) (w : World) (pe g bm : Nat) (S : Nat → Prop) (Ar : Option Addr) (cr : Nat) (L : List (Nat × Ro)) (E : Qn) : Prop where
  blk : Blk w pe 75 #[.pointer (some ⟨g, 0, none⟩), .int .i64 E.blk, .int .u64 E.known, .map (some bm), .slice Ar E.rest.length cr, .bool E.begun, .int .i64 E.err]
  tab : TabS S w g E.t
  map : MapIs w bm ukey (entsR L)
  nd : (L.map (·.1)).Nodup
  rows : ∀ x ∈ L, RoM X w x.2
  same : ∀ x ∈ L, x.2.l.map (·.1) = E.opn.filter fun o => decide (o.stream = x.1)
  all : ∀ o ∈ E.opn, o.stream ∈ L.map (·.1)
  rest : App X w 5 1 Ar E.rest.length cr (bvs E.rest)
  low : ∀ k, X k → k < w.heap.size
  xp : X pe
  xm : X bm
  xs : ∀ k, S k → X k
  ps : ¬ S pe
  ms : ¬ S bm
  mp : pe ≠ bm
  rs : ∀ k, M.blk Ar = some k → ¬ S k ∧ k ≠ pe ∧ k ≠ bm
  ro : ∀ x ∈ L, ∀ k, M.blk x.2.A = some k → ¬ S k ∧ k ≠ pe ∧ k ≠ bm ∧ M.blk Ar ≠ some k
  us : ∀ x ∈ L, ∀ y ∈ x.2.l, ¬ S y.2 ∧ y.2 ≠ pe ∧ y.2 ≠ bm ∧ M.blk Ar ≠ some y.2
  rr : L.Pairwise fun x y => M.blk x.2.A ≠ M.blk y.2.A
  ok : E.t.Ok
  cap : E.t.cap ≤ 4096
  nb : E.t.n ≤ 1152921504606846976
  kn : E.known ≤ E.t.n
  ctn : ∀ o ∈ E.opn, o.count ≤ E.t.n
  bl : E.blk ≤ 9223372036854775807
  rl : E.rest.length ≤ 1099511627776
section
variable {X S : Nat → Prop} {w w' : World} {pe g bm cr : Nat} {Ar : Option Addr} {L : List (Nat × Ro)} {E : Qn}
theorem RoM.keep {N : Nat → Prop} {x : Ro} (h : RoM X w x) (f : Frm N w w') (hN : ∀ k, X k → ¬ N k) : RoM X w' x :=
  { h with
    app := h.app.keep f (fun k hk => hN k (h.app.inM k hk))
    use_ := fun y hy => by
      obtain ⟨h1, ents, h2⟩ := h.use_ y hy
      exact ⟨h1, ents, { h2 with map := h2.map.keep f (hN _ h1) }⟩ }
theorem QnM.keep {N : Nat → Prop} (h : QnM X w pe g bm S Ar cr L E) (f : Frm N w w') (hN : ∀ k, X k → ¬ N k) : QnM X w' pe g bm S Ar cr L E :=
  { h with
    blk := h.blk.keep f (hN _ h.xp)
    tab := h.tab.keep f (fun k hk => hN k (h.xs k hk))
    map := h.map.keep f (hN _ h.xm)
    rows := fun x hx => (h.rows x hx).keep f hN
    rest := h.rest.keep f (fun k hk => hN k (h.rest.inM k hk))
    low := fun k hk => Nat.lt_of_lt_of_le (h.low k hk) f.size }
theorem QnM.fresh (h : QnM X w pe g bm S Ar cr L E) (f : Frm (New w) w w') : QnM X w' pe g bm S Ar cr L E :=
  h.keep f (fun k hk e => by have := h.low k hk; unfold New at e; omega)
end
theorem getE_entsR (s : Nat) : ∀ L : List (Nat × Ro), getE s (entsR L) = (getE s L).map Ro.v
  | [] => rfl
  | x :: r => by
    show getE s ((x.1, x.2.v) :: entsR r) = _
    rw [getE_cons, getE_cons]
    by_cases h : s = x.1
    · rw [if_pos h, if_pos h]; rfl
    · rw [if_neg h, if_neg h, getE_entsR s r]
theorem getE_mem {ν : Type} {s : Nat} {v : ν} : ∀ {L : List (Nat × ν)}, getE s L = some v → (s, v) ∈ L
  | [], h => by cases h
  | x :: r, h => by
    rw [getE_cons] at h
    by_cases e : s = x.1
    · rw [if_pos e] at h
      cases h
      subst e
      exact List.mem_cons_self ..
    · rw [if_neg e] at h
      exact List.mem_cons_of_mem _ (getE_mem h)
theorem getE_not {ν : Type} {s : Nat} : ∀ {L : List (Nat × ν)}, getE s L = none → s ∉ L.map (·.1)
  | [], _ => by simp
  | x :: r, h => by
    rw [getE_cons] at h
    by_cases e : s = x.1
    · rw [if_pos e] at h; cases h
    · rw [if_neg e] at h
      simp only [List.map_cons, List.mem_cons, not_or]
      exact ⟨e, getE_not h⟩
theorem QnM.secs {X S : Nat → Prop} {w : World} {pe g bm cr : Nat} {Ar : Option Addr} {L : List (Nat × Ro)} {E : Qn} (h : QnM X w pe g bm S Ar cr L E) (s : Nat) :
    match getE s L with
    | none => (E.opn.filter fun o => decide (o.stream = s)) = []
    | some x => RoM X w x ∧ x.l.map (·.1) = E.opn.filter fun o => decide (o.stream = s) := by
  cases hg : getE s L with
  | none =>
    rw [List.filter_eq_nil_iff]
    intro o ho e
    exact getE_not hg (by rw [← of_decide_eq_true e]; exact h.all o ho)
  | some x => exact ⟨h.rows _ (getE_mem hg), h.same _ (getE_mem hg)⟩
theorem stuck_filter (E : Qn) (s : Nat) : E.stuck s = (E.opn.filter fun o => decide (o.stream = s)).any fun o => decide (E.known < o.count) := by
  unfold Qn.stuck
  rw [List.any_filter]
end Go.Proofs.Ytdgggjeiflllhaa.M
namespace Go.Proofs.Ytdgggjeiflllhaa.M
open Go.ChangeShapes Go.WideShapes Go.ChangeAt Go.RowKit
theorem uMo : Try.prog.underlying 73 = some (.map 32 92) := Try.underlying73
theorem zSecs : (Try.prog.info? 92).map (·.zero) = some (some (.slice none 0 0)) := by kernel_rfl
theorem zSec1 : (Try.prog.info? 84).map (·.zero) = some (some (.agg #[.int .u64 0, .map none])) := by kernel_rfl
theorem sec_one (a : Int) (b : Nat) : ∀ u ∈ (#[.int .u64 a, .map (some b)] : Array Value).toList, u.oneCell' = true := fun u hu => by
  simp at hu
  rcases hu with rfl | rfl <;> rfl
theorem secC_cells {w : World} {g off : Nat} {l : List (Qs × Nat)} (h : Rd w (some ⟨g, off, none⟩) (secC l)) (i : Nat) (hi : i < l.length) :
    w.cell? ⟨g, off + i * 2, none⟩ = some (.int .u64 (l[i].1.count : Int)) ∧ w.cell? ⟨g, off + i * 2 + 1, none⟩ = some (.map (some l[i].2)) := by
  have key := elem_cells (fun x : Qs × Nat => [Value.int .u64 (x.1.count : Int), Value.map (some x.2)]) 2 (fun _ => rfl) h i hi
  exact ⟨key 0 _ (by omega) rfl, key 1 _ (by omega) rfl⟩
theorem QnM.look {X S : Nat → Prop} {w : World} {pe g bm cr : Nat} {Ar : Option Addr} {L : List (Nat × Ro)} {E : Qn} (h : QnM X w pe g bm S Ar cr L E) (s : Nat) :
    ∃ (A : Option Addr) (c : Nat) (l : List (Qs × Nat)), (getE s (entsR L)).getD (.slice none 0 0) = .slice A l.length c ∧ Rd w A (secC l) ∧ l.length ≤ c ∧ (∀ y ∈ l, y.1.count ≤ 1152921504606846976) ∧ l.map (·.1) = E.opn.filter (fun o => decide (o.stream = s)) ∧ (getE s L = none → l = []) ∧ (∀ x, getE s L = some x → A = x.A ∧ c = x.c ∧ l = x.l) ∧ l.length ≤ maxLen := by
  have hs := h.secs s
  rw [getE_entsR]
  cases hg : getE s L with
  | none =>
    rw [hg] at hs
    exact ⟨none, 0, [], rfl, Rd.nil, Nat.le_refl _, fun y hy => (by cases hy), hs.symm, fun _ => rfl, fun x hx => (by cases hx), Nat.zero_le _⟩
  | some x =>
    rw [hg] at hs
    exact ⟨x.A, x.c, x.l, rfl, hs.1.app.rd, hs.1.app.cap, hs.1.small, hs.2, fun q => (by cases q), fun y hy => (by cases hy; exact ⟨rfl, rfl, rfl⟩), Nat.le_trans hs.1.app.cap hs.1.app.max⟩
set_option maxRecDepth 100000 in
set_option maxHeartbeats 4000000 in
theorem nwaits_any {X S : Nat → Prop} {w : World} {pe g bm cr : Nat} {Ar : Option Addr} {L : List (Nat × Ro)} {E : Qn} (h : QnM X w pe g bm S Ar cr L E) (s : Nat) :
    Calls Try.prog 117 #[.pointer (some ⟨pe, 0, none⟩), .int .u64 (s : Int)] w fun e w' => e = .returned (.bool (E.stuck s)) ∧ Frm (New w) w w' := by
  obtain ⟨A, c, l, hv, hR, hlc, hsm, hl, _, _, hlm⟩ := h.look s
  simp only [maxLen] at hlm
  have hlk := run_lookup ukeys uMo zSecs h.map s false
  rw [hv] at hlk
  simp only [Bool.false_eq_true, if_false, ukey] at hlk
  have hst : E.stuck s = l.any fun y => decide (E.known < y.1.count) := by
    rw [stuck_filter, ← hl, List.any_map]
    rfl
  have hb := h.blk
  have hy2 := hb.cell 2
  have hy3 := hb.cell 3
  simp only [List.getElem?_toArray, List.getElem?_cons_zero, List.getElem?_cons_succ] at hy2 hy3
  have hpl := hb.lt
  have H := Lib.hid h
  have HB := Lib.hid hb
  have HST := Lib.hid hst
  have HR := Lib.hid hR
  have HL := Lib.hid hl
  have HSM := Lib.hid hsm
  clear h hb hst hR hl hsm
  clear hv
  go_enter Try.func117, Try.ntmps117
  go_wp2_with (fail)
  go_loopg [14] l.length (fun kk v wx => ∃ i : Nat, v = .int .i64 (i : Int) ∧ i + kk = l.length ∧ Hid (∀ y ∈ l.take i, ¬ E.known < y.1.count) ∧ Hid (Frm (New w) w wx))
  case atStart => exact ⟨0, rfl, by omega, Lib.hid (fun y hy => by cases hy), Lib.hid (Frm.refl _ _)⟩
  case round =>
    obtain ⟨i, rfl, hi, hno, hF⟩ := hrel
    rename World => wx
    by_cases hil : i < l.length
    · have hili : (i : Int) < (l.length : Int) := by omega
      have hRx := HR.out.fresh hF.out
      obtain ⟨gA, oA, rfl, hjunk⟩ := hRx.at_ (k := i * 2) (by rw [secC_len]; omega)
      clear hjunk
      obtain ⟨hc0, hc1⟩ := secC_cells hRx i hil
      have hgl := World.block_lt_of_cell? _ _ hc0
      simp only at hgl
      have hsmi := HSM.out l[i] (List.getElem_mem hil)
      have htk : l.take (i + 1) = l.take i ++ [l[i]] := by rw [List.take_add_one, List.getElem?_eq_getElem hil]; rfl
      have hmem := List.getElem_mem hil
      generalize l[i] = y at *
      obtain ⟨⟨ys, yc, yu⟩, yb⟩ := y
      simp only at hc0 hc1 hsmi
      have hbx := HB.out.fresh hF.out
      clear hy2 hy3 hpl
      have hy2 := hbx.cell 2
      simp only [List.getElem?_toArray, List.getElem?_cons_zero, List.getElem?_cons_succ] at hy2
      have hpl := hbx.lt
      have hFx := hF.out
      have HBX := Lib.hid hbx
      have HRX := Lib.hid hRx
      have HTK := Lib.hid htk
      have HMEM := Lib.hid hmem
      clear hbx hRx htk hmem
      go_upto_region 4 with (first
        | (refine wpList_new rfl rfl zSec1 rfl ?_; intro w2 hb2 hF2 hs2)
        | (refine wpList_store_agg rfl rfl rfl rfl hb2 rfl (sec_one _ _) (by kernel_rfl) ?_; intro w3 hb3 hF3 hs3))
      have hF23 : Frm (New wx) wx w3 := hF2.trans (hF3.mono (fun k hk => by subst hk; exact Nat.le_refl _))
      have hb9 := HBX.out.fresh hF23
      have hF03 := hFx.then_new Up.new hF23
      clear hy2 hpl hb2 hF2 hs2 hF3 hs3 hc0 hc1 hgl hFx hF
      have hy2 := hb9.cell 2
      simp only [List.getElem?_toArray, List.getElem?_cons_zero, List.getElem?_cons_succ] at hy2
      have hk0 := hb3.cell 0
      simp only [List.getElem?_toArray, List.getElem?_cons_zero] at hk0
      have hpl := hb9.lt
      have hkl := hb3.lt
      have HB9 := Lib.hid hb9
      have HB3 := Lib.hid hb3
      have HF03 := Lib.hid hF03
      have HF23 := Lib.hid hF23
      have HNO := Lib.hid hno
      clear hb9 hb3 hF03 hF23 hno
      generalize wx.heap.size = bx at *
      by_cases hk : E.known < yc
      · have hki : (E.known : Int) < (yc : Int) := by omega
        go_quiet (fail)
        all_goals go_wp2
        all_goals go_ret
        all_goals refine ⟨?_, HF03.out.drewN _⟩
        all_goals rw [HST.out, show (l.any fun y => decide (E.known < y.1.count)) = true from List.any_eq_true.2 ⟨_, HMEM.out, decide_eq_true hk⟩]
        all_goals rfl
      · have hki : ¬ (E.known : Int) < (yc : Int) := by omega
        go_quiet (fail)
        all_goals go_wp2
        go_roundg (gk - 1)
        case measure => omega
        case rel =>
          refine ⟨i + 1, ?_, by omega, ?_, Lib.hid (HF03.out.drewN _)⟩
          · rw [Int.natCast_add]; rfl
          · show ∀ _, _
            rw [HTK.out]
            intro z hz
            rcases List.mem_append.1 hz with q | q
            · exact HNO.out z q
            · rw [List.mem_singleton.1 q]; exact hk
    · have hili : ¬ (i : Int) < (l.length : Int) := by omega
      obtain rfl : i = l.length := by omega
      go_wp2
      go_ret
      refine ⟨?_, hF.out⟩
      rw [HST.out]
      have hh := hno.out
      rw [List.take_length] at hh
      rw [show (l.any fun y => decide (E.known < y.1.count)) = false from List.any_eq_false.2 (fun y hy => by simpa using hh y hy)]
      rfl
end Go.Proofs.Ytdgggjeiflllhaa.M
namespace Go.Proofs.Ytdgggjeiflllhaa.M
open Go.ChangeShapes Go.WideShapes Go.ChangeAt Go.RowKit
theorem nodup_le {α : Type} [DecidableEq α] : ∀ (a b : List α), a.Nodup → (∀ x ∈ a, x ∈ b) → a.length ≤ b.length
  | [], _, _, _ => Nat.zero_le _
  | x :: r, b, hn, hs => by
    have hn' := List.nodup_cons.1 hn
    have hx := hs x (List.mem_cons_self ..)
    have h1 := nodup_le r (b.erase x) hn'.2 (fun y hy => (List.mem_erase_of_ne (fun e => by subst e; exact hn'.1 hy)).2 (hs y (List.mem_cons_of_mem _ hy)))
    have h2 := List.length_erase_of_mem hx
    have h3 : 0 < b.length := List.length_pos_of_mem hx
    simp only [List.length_cons]
    omega
theorem firsts_nodup : ∀ (l : List Qs) (seen : List Nat), (firsts l seen).Nodup ∧ ∀ s, s ∈ firsts l seen ↔ s ∉ seen ∧ ∃ o ∈ l, o.stream = s
  | [], seen => ⟨List.nodup_nil, fun s => ⟨fun h => (by cases h), fun h => by obtain ⟨_, o, ho, _⟩ := h; cases ho⟩⟩
  | o :: r, seen => by
    unfold firsts
    by_cases h : o.stream ∈ seen
    · rw [if_pos h]
      obtain ⟨h1, h2⟩ := firsts_nodup r seen
      refine ⟨h1, fun s => (h2 s).trans ⟨fun q => ⟨q.1, by obtain ⟨_, x, hx, e⟩ := q; exact ⟨x, List.mem_cons_of_mem _ hx, e⟩⟩, fun q => ⟨q.1, ?_⟩⟩⟩
      obtain ⟨hs, x, hx, e⟩ := q
      rcases List.mem_cons.1 hx with e2 | e2
      · subst e2; exact absurd (e ▸ h) hs
      · exact ⟨x, e2, e⟩
    · rw [if_neg h]
      obtain ⟨h1, h2⟩ := firsts_nodup r (o.stream :: seen)
      refine ⟨List.nodup_cons.2 ⟨fun q => ((h2 _).1 q).1 (List.mem_cons_self ..), h1⟩, fun s => ⟨fun q => ?_, fun q => ?_⟩⟩
      · rcases List.mem_cons.1 q with e | e
        · exact ⟨e ▸ h, o, List.mem_cons_self .., e.symm⟩
        · obtain ⟨q1, x, hx, e⟩ := (h2 s).1 e
          exact ⟨fun z => q1 (List.mem_cons_of_mem _ z), x, List.mem_cons_of_mem _ hx, e⟩
      · obtain ⟨q1, x, hx, e⟩ := q
        by_cases hso : s = o.stream
        · rw [hso]; exact List.mem_cons_self ..
        · refine List.mem_cons_of_mem _ ((h2 s).2 ⟨fun z => ?_, ?_⟩)
          · rcases List.mem_cons.1 z with z | z
            · exact hso z
            · exact q1 z
          · rcases List.mem_cons.1 hx with z | z
            · subst z; exact absurd e.symm hso
            · exact ⟨x, z, e⟩
theorem many_keys (E : Qn) (ks : List Nat) (hn : ks.Nodup) (hm : ∀ s, s ∈ ks ↔ ∃ o ∈ E.opn, o.stream = s) : (ks.filter E.stuck).length = E.many := by
  unfold Qn.many
  obtain ⟨h1, h2⟩ := firsts_nodup E.opn []
  have h3 : ∀ s, s ∈ ks ↔ s ∈ firsts E.opn [] := fun s => (hm s).trans ⟨fun q => (h2 s).2 ⟨by simp, q⟩, fun q => ((h2 s).1 q).2⟩
  refine Nat.le_antisymm (nodup_le _ _ (hn.filter _) (fun x hx => ?_)) (nodup_le _ _ (h1.filter _) (fun x hx => ?_))
  · rw [List.mem_filter] at hx ⊢; exact ⟨(h3 x).1 hx.1, hx.2⟩
  · rw [List.mem_filter] at hx ⊢; exact ⟨(h3 x).2 hx.1, hx.2⟩
theorem QnM.keys {X S : Nat → Prop} {w : World} {pe g bm cr : Nat} {Ar : Option Addr} {L : List (Nat × Ro)} {E : Qn} (h : QnM X w pe g bm S Ar cr L E) : ((L.map (·.1)).filter E.stuck).length = E.many :=
  many_keys E _ h.nd (fun s => ⟨fun hs => by
    obtain ⟨x, hx, rfl⟩ := List.mem_map.1 hs
    have h1 := h.same x hx
    have h2 := (h.rows x hx).ne
    cases hl : x.2.l with
    | nil => exact absurd hl h2
    | cons y r =>
      rw [hl, List.map_cons] at h1
      have : y.1 ∈ E.opn.filter fun o => decide (o.stream = x.1) := by rw [← h1]; exact List.mem_cons_self ..
      rw [List.mem_filter] at this
      exact ⟨y.1, this.1, of_decide_eq_true this.2⟩, fun hs => by
    obtain ⟨o, ho, rfl⟩ := hs
    exact h.all o ho⟩)
theorem all_places (f : Nat → Bool) (ks : List Nat) (P : List Nat) (hn : P.Nodup) (hall : ∀ i, i < ks.length → i ∈ P) (hlt : ∀ i ∈ P, i < ks.length) : (P.filter fun i => f (ks.getD i 0)).length = (ks.filter f).length := by
  have h1 : (P.filter fun i => f (ks.getD i 0)).length = ((List.range ks.length).filter fun i => f (ks.getD i 0)).length :=
    Nat.le_antisymm (nodup_le _ _ (hn.filter _) (fun x hx => by rw [List.mem_filter] at hx ⊢; exact ⟨List.mem_range.2 (hlt x hx.1), hx.2⟩))
      (nodup_le _ _ (List.nodup_range.filter _) (fun x hx => by rw [List.mem_filter] at hx ⊢; exact ⟨hall x (List.mem_range.1 hx.1), hx.2⟩))
  rw [h1]
  have h2 : ks = (List.range ks.length).map (fun i => ks.getD i 0) := by
    apply List.ext_getElem
    · simp
    · intro i h3 h4
      simp [List.getD, List.getElem?_eq_getElem h3]
  conv => rhs; rw [h2, List.filter_map, List.length_map]
  rfl
set_option maxRecDepth 100000 in
set_option maxHeartbeats 4000000 in
theorem nwaiting_any {X S : Nat → Prop} {w : World} {pe g bm cr : Nat} {Ar : Option Addr} {L : List (Nat × Ro)} {E : Qn} (h : QnM X w pe g bm S Ar cr L E) (hL : L.length ≤ 4611686018427387903) :
    Calls Try.prog 118 #[.pointer (some ⟨pe, 0, none⟩)] w fun e w' => e = .returned (.int .i64 (E.many : Nat)) ∧ Frm (New w) w w' := by
  have hkeys := h.keys
  have hb := h.blk
  have hy3 := hb.cell 3
  simp only [List.getElem?_toArray, List.getElem?_cons_zero, List.getElem?_cons_succ] at hy3
  have hpl := hb.lt
  have hel : (entsR L).length = L.length := by unfold entsR; rw [List.length_map]
  have hmap := h.map
  have H := Lib.hid h
  have HB := Lib.hid hb
  have HKEYS := Lib.hid hkeys
  have HEL := Lib.hid hel
  have HMAP := Lib.hid hmap
  clear h hb hkeys hel hmap
  go_enter Try.func118, Try.ntmps118
  obtain ⟨w2, hrun, HIT, HF2, hs2⟩ := run_range_is uMo HMAP.out
  have HIT' := Lib.hid HIT
  have HF2' := Lib.hid HF2
  clear HIT HF2
  go_wp2_with (fail)
  clear hrun
  obtain ⟨r, hr⟩ : ∃ r, r = w.heap.size := ⟨_, rfl⟩
  rw [← hr] at HIT' ⊢
  have hrw : w.heap.size ≤ r := by omega
  clear hr hs2
  go_loopg [3] L.length (fun kk v3 wx => ∃ (P : List Nat) (n : Nat), v3 = .int .i64 (n : Int) ∧ P.Nodup ∧ P.length + kk = L.length ∧ n ≤ P.length ∧ Hid (∀ i ∈ P, i < L.length) ∧ Hid (n = (P.filter fun i => E.stuck ((L.map (·.1)).getD i 0)).length) ∧ Hid (ItAt wx r bm ukey (entsR L) P) ∧ Hid (Frm (New w) w wx))
  case atStart => exact ⟨[], 0, rfl, List.nodup_nil, by simp, Nat.le_refl _, Lib.hid (fun i h => by cases h), Lib.hid rfl, HIT', HF2'⟩
  case round =>
    clear HIT' HF2'
    obtain ⟨P, n, rfl, hPn, hPk, hnP, hPl, hnE, hIt, hF⟩ := hrel
    rename World => wx
    rcases run_next_is (P := Try.prog) hIt.out 0 with ⟨hall, hnx⟩ | ⟨i, hi, w3, hiP, hnx, hit3, hF3, hs3, hen⟩
    · have HALL := Lib.hid hall
      clear hall
      go_wp2_with (fail)
      go_ret
      refine ⟨?_, hF.out⟩
      rw [hnE.out, all_places E.stuck (L.map (·.1)) P hPn (fun i hi => HALL.out i (by rw [HEL.out]; simpa using hi)) (fun i hi => by simpa using hPl.out i hi), HKEYS.out]
      rfl
    · have hiL : i < L.length := by rw [← HEL.out]; exact hi
      have hF03 : Frm (New w) w w3 := hF.out.trans (hF3.mono (fun k hk => by subst hk; exact hrw))
      have hPn2 : (P ++ [i]).Nodup := by
        rw [List.nodup_append]
        exact ⟨hPn, by simp, fun a ha c hc => by rw [List.mem_singleton.1 hc]; exact fun e => hiP (e ▸ ha)⟩
      have hPl2 : ∀ j ∈ P ++ [i], j < L.length := fun j hj => by
        rcases List.mem_append.1 hj with q | q
        · exact hPl.out j q
        · rw [List.mem_singleton.1 q]; exact hiL
      have hle : P.length < L.length := by
        have := nodup_le (P ++ [i]) (List.range L.length) hPn2 (fun j hj => List.mem_range.2 (hPl2 j hj))
        rw [List.length_append, List.length_range, List.length_singleton] at this
        omega
      have hkey : (L.map (·.1)).getD i 0 = L[i].1 := by simp [List.getD, List.getElem?_eq_getElem hiL]
      have hfl : ((P ++ [i]).filter fun i => E.stuck ((L.map (·.1)).getD i 0)).length = n + (if E.stuck L[i].1 then 1 else 0) := by
        rw [List.filter_append, List.length_append, ← hnE.out, List.filter_cons, hkey]
        cases E.stuck L[i].1 <;> rfl
      simp only [entsR, List.getElem_map] at hen hnx
      generalize L[i] = y at *
      obtain ⟨ys, yx⟩ := y
      simp only [Ro.v, ukey] at hen hnx hfl
      have hwt := nwaits_any (H.out.fresh hF03) ys
      clear hkey hF3 hs3 hi
      have HPL2 := Lib.hid hPl2
      have HIT3 := Lib.hid hit3
      have HF03 := Lib.hid hF03
      have HPN2 := Lib.hid hPn2
      clear hPl2 hit3 hF03 hPn2
      cases hst : E.stuck ys with
      | true =>
        rw [hst] at hwt hfl
        have HWT := Lib.hid hwt
        have HFL := Lib.hid hfl
        clear hwt hfl
        go_wp2_with (fail)
        refine HWT.out.mono ?_
        rintro e w4 ⟨rfl, hF4⟩
        have HF04 := Lib.hid (HF03.out.then_new Up.new hF4)
        have HIT4 := Lib.hid (HIT3.out.fresh hF4)
        clear hF4 hnx hen
        go_wp2
        go_roundg (gk - 1)
        case measure => omega
        case rel => exact ⟨P ++ [i], n + 1, by rw [Int.natCast_add]; rfl, HPN2.out, by rw [List.length_append, List.length_singleton]; omega, by rw [List.length_append, List.length_singleton]; omega, HPL2, Lib.hid (by rw [HFL.out]; rfl), HIT4, HF04⟩
      | false =>
        rw [hst] at hwt hfl
        have HWT := Lib.hid hwt
        have HFL := Lib.hid hfl
        clear hwt hfl
        go_wp2_with (fail)
        refine HWT.out.mono ?_
        rintro e w4 ⟨rfl, hF4⟩
        have HF04 := Lib.hid (HF03.out.then_new Up.new hF4)
        have HIT4 := Lib.hid (HIT3.out.fresh hF4)
        clear hF4 hnx hen
        go_wp2
        go_roundg (gk - 1)
        case measure => omega
        case rel => exact ⟨P ++ [i], n, rfl, HPN2.out, by rw [List.length_append, List.length_singleton]; omega, by rw [List.length_append, List.length_singleton]; omega, HPL2, Lib.hid (by rw [HFL.out]; rfl), HIT4, HF04⟩
end Go.Proofs.Ytdgggjeiflllhaa.M

