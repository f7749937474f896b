/- Qm -/
import Derived.BigQuiet
import Derived.Deep.CutBlock
import Derived.Lib.Hide
import Derived.IntWalk
import Derived.Test.YtdgggjeiflllhaaZyQi
import Derived.Test.YtdgggjeiflllhaaZyQd
import Derived.Deep.RegionHeld3

namespace Go.Proofs.Ytdgggjeiflllhaa.M
open Go.ChangeShapes Go.WideShapes Go.ChangeAt Go.RowKit
def ukey (k : Nat) : Value := .int .u64 (k : Int)
theorem check_uint (P : Program) (T : TypeId) (n : Nat) (e : Bool) (q : Int) (w : World) (h : P.underlying T = some (.int .u64)) : (Instr.checkKey e (n + 1) T (.int .u64 q)).run P w = .ok () w := by
  simp [Instr.checkKey, run_underlying h]
theorem ukeys : KeyLaw Try.prog 32 ukey where
  check := fun e k w => check_uint _ _ 9999 e k w Try.underlying32
  find := find_now (enc := ukey) Try.underlying32 (fun a b => by
    simp only [Instr.sameNow, ukey]
    by_cases h : a = b
    · subst h; simp
    · have h2 : ¬ ((a : Int) = (b : Int)) := by omega
      simp [h, h2])
  same := fun k => by
    show ((IntKind.u64 == IntKind.u64) && ((k : Int) == (k : Int))) = true
    simp
structure QdM (X : Nat → Prop) (w : World) (pd g bm : Nat) (S : Nat → Prop) (Ar : Option Addr) (cr : Nat) (Ao : Option Addr) (co : Nat) (ents : List (Nat × Value)) (D : Qd) : Prop where
  blk : Blk w pd 122 #[.pointer (some ⟨g, 0, none⟩), .int .i64 D.lim, .int .i64 D.blk, .map (some bm), .slice Ar D.rest.length cr, .slice Ao D.out.length co, .int .u64 D.told, .bool D.bad]
  tab : TabS S w g D.t
  map : MapIs w bm ukey ents
  keys : ents.map (·.1) = D.waits
  nd : D.waits.Nodup
  cnt : ∀ x ∈ ents, ∃ k : Int, x.2 = .int .i64 k
  rest : App X w 5 1 Ar D.rest.length cr (bvs D.rest)
  out : Rd w Ao (bvs D.out)
  low : ∀ k, X k → k < w.heap.size
  xp : X pd
  xm : X bm
  xs : ∀ k, S k → X k
  xo : ∀ k, M.blk Ao = some k → X k
  ps : ¬ S pd
  ms : ¬ S bm
  mp : pd ≠ bm
  rs : ∀ k, M.blk Ar = some k → ¬ S k ∧ k ≠ pd ∧ k ≠ bm
  os : ∀ k, M.blk Ao = some k → ¬ S k ∧ k ≠ pd ∧ k ≠ bm ∧ M.blk Ar ≠ some k
  ok : D.t.Ok
  cap : D.t.cap ≤ 4096
  lim : D.lim ≤ 4096
  nb : D.t.n ≤ 1152921504606846976
  rl : D.rest.length ≤ 1099511627776
  ol : D.out.length ≤ 1099511627776
section
variable {X S : Nat → Prop} {w w' : World} {pd g bm cr co : Nat} {Ar Ao : Option Addr} {ents : List (Nat × Value)} {D : Qd}
theorem QdM.keep {N : Nat → Prop} (h : QdM X w pd g bm S Ar cr Ao co ents D) (f : Frm N w w') (hN : ∀ k, X k → ¬ N k) : QdM X w' pd g bm S Ar cr Ao co ents D :=
  { h with
    blk := h.blk.keep f (hN _ h.xp)
    tab := h.tab.keep f (fun k hk => hN k (h.xs k hk))
    map := h.map.keep f (hN _ h.xm)
    rest := h.rest.keep f (fun k hk => hN k (h.rest.inM k hk))
    out := h.out.keep f (fun k hk => hN k (h.xo k hk))
    low := fun k hk => Nat.lt_of_lt_of_le (h.low k hk) f.size }
theorem QdM.fresh (h : QdM X w pd g bm S Ar cr Ao co ents D) (f : Frm (New w) w w') : QdM X w' pd g bm S Ar cr Ao co ents D :=
  h.keep f (fun k hk e => by have := h.low k hk; unfold New at e; omega)
end
set_option maxRecDepth 100000 in
set_option maxHeartbeats 1000000 in
theorem qtable_any {X S : Nat → Prop} {w : World} {pd g bm cr co : Nat} {Ar Ao : Option Addr} {ents : List (Nat × Value)} {D : Qd} (h : QdM X w pd g bm S Ar cr Ao co ents D) : Calls Try.prog 31 #[.pointer (some ⟨pd, 0, none⟩)] w fun e w' => e = .returned (.pointer (some ⟨g, 0, none⟩)) ∧ w' = w := by
  have hb := h.blk
  have hy0 := hb.cell 0
  simp only [List.getElem?_toArray, List.getElem?_cons_zero] at hy0
  have hl := hb.lt
  clear hb h
  go_enter Try.func31, Try.ntmps31
  go_wp2
  go_ret
  exact ⟨rfl, rfl⟩
theorem uMq : Try.prog.underlying 82 = some (.map 32 3) := Try.underlying82
theorem run_qlen {w : World} {b : Nat} {ents : List (Nat × Value)} (h : MapIs w b ukey ents) : (Builtin.len_ #[82] 3 #[.map (some b)]).run Try.prog w = .ok (.int .i64 (ents.length : Int)) w := by
  obtain ⟨es, ck, hb, _, he⟩ := h
  have hMk : Try.prog.underlying 82 = some (.map (Try.prog.mapKeyOf 82) (Try.prog.mapElemOf 82)) := by kernel_rfl
  have hr := run_len_map w 82 3 b es ck hMk hb
  have hsz : es.size = ents.length := by
    have := congrArg List.length he
    simpa using this
  rw [hsz] at hr
  exact hr
set_option maxRecDepth 100000 in
set_option maxHeartbeats 1000000 in
theorem qwaiting_any {X S : Nat → Prop} {w : World} {pd g bm cr co : Nat} {Ar Ao : Option Addr} {ents : List (Nat × Value)} {D : Qd} (h : QdM X w pd g bm S Ar cr Ao co ents D) : Calls Try.prog 27 #[.pointer (some ⟨pd, 0, none⟩)] w fun e w' => e = .returned (.int .i64 (D.waits.length : Nat)) ∧ w' = w := by
  have hb := h.blk
  have hy3 := hb.cell 3
  simp only [List.getElem?_toArray, List.getElem?_cons_zero, List.getElem?_cons_succ] at hy3
  have hl := hb.lt
  have hlen := run_qlen h.map
  have hel : ents.length = D.waits.length := by rw [← h.keys, List.length_map]
  rw [hel] at hlen
  clear hb h hel
  go_enter Try.func27, Try.ntmps27
  go_wp2
  go_ret
  exact ⟨rfl, rfl⟩
end Go.Proofs.Ytdgggjeiflllhaa.M
namespace Go.Proofs.Ytdgggjeiflllhaa.M
open Go.ChangeShapes Go.WideShapes Go.ChangeAt Go.RowKit
theorem delE_keys {κ ν : Type} [DecidableEq κ] (k : κ) : ∀ l : List (κ × ν), (l.map (·.1)).Nodup → (delE k l).map (·.1) = (l.map (·.1)).filter (fun x => decide (x ≠ k))
  | [], _ => rfl
  | p :: r, h => by
    simp only [List.map_cons, List.nodup_cons] at h
    unfold delE
    by_cases hk : k = p.1
    · rw [if_pos hk]
      simp only [List.map_cons]
      rw [List.filter_cons_of_neg (by simp [hk])]
      symm
      rw [List.filter_eq_self]
      intro x hx
      simp only [ne_eq, decide_not, Bool.not_eq_eq_eq_not, Bool.not_true, decide_eq_false_iff_not]
      intro e
      exact h.1 (by rw [← hk, ← e]; exact hx)
    · rw [if_neg hk]
      simp only [List.map_cons]
      rw [List.filter_cons_of_pos (by simp; exact fun e => hk e.symm), delE_keys k r h.2]
theorem mem_delE {κ ν : Type} [DecidableEq κ] (k : κ) : ∀ (l : List (κ × ν)) (x : κ × ν), x ∈ delE k l → x ∈ l
  | [], x, h => h
  | p :: r, x, h => by
    unfold delE at h
    split at h
    · exact List.mem_cons_of_mem _ h
    · rcases List.mem_cons.1 h with h | h
      · exact h ▸ List.mem_cons_self ..
      · exact List.mem_cons_of_mem _ (mem_delE k r x h)
def QdAt (X : Nat → Prop) (w : World) (pd g bm : Nat) (D : Qd) : Prop := ∃ S Ar cr Ao co ents, QdM X w pd g bm S Ar cr Ao co ents D
def QdRes (X : Nat → Prop) (w : World) (pd g bm : Nat) (D : Qd) (w' : World) : Prop := ∃ X', QdAt X' w' pd g bm D ∧ Frm (Own X w) w w' ∧ ∀ k, X' k → Own X w k
theorem Own.through {X Y Z : Nat → Prop} {w w' : World} (h1 : ∀ k, Y k → Own X w k) (h2 : ∀ k, Z k → Own Y w' k) (hs : w.heap.size ≤ w'.heap.size) : ∀ k, Z k → Own X w k := fun k hk => by
  rcases h2 k hk with h | h
  · exact h1 k h
  · exact .inr (Nat.le_trans hs h)
theorem Own.step {X Y : Nat → Prop} {w w' : World} (h1 : ∀ k, Y k → Own X w k) (hs : w.heap.size ≤ w'.heap.size) : ∀ k, Own Y w' k → Own X w k := fun k hk => by
  rcases hk with h | h
  · exact h1 k h
  · exact .inr (Nat.le_trans hs h)
section
variable {X S : Nat → Prop} {w w' w2 : World} {pd g bm cr co : Nat} {Ar Ao : Option Addr} {ents : List (Nat × Value)} {D : Qd}
theorem QdAt.fresh (h : QdAt X w pd g bm D) (f : Frm (New w) w w') : QdAt X w' pd g bm D := by
  obtain ⟨S, Ar, cr, Ao, co, ents, h⟩ := h
  exact ⟨S, Ar, cr, Ao, co, ents, h.fresh f⟩
theorem QdAt.keep {N : Nat → Prop} (h : QdAt X w pd g bm D) (f : Frm N w w') (hN : ∀ k, X k → ¬ N k) : QdAt X w' pd g bm D := by
  obtain ⟨S, Ar, cr, Ao, co, ents, h⟩ := h
  exact ⟨S, Ar, cr, Ao, co, ents, h.keep f hN⟩
theorem QdRes.trans {D2 : Qd} {X' : Nat → Prop} (f : Frm (Own X w) w w') (hs : ∀ k, X' k → Own X w k) (h : QdRes X' w' pd g bm D2 w2) : QdRes X w pd g bm D2 w2 := by
  obtain ⟨X2, h1, h2, h3⟩ := h
  exact ⟨X2, h1, f.trans (h2.mono (Own.step hs f.size)), Own.through hs h3 f.size⟩
theorem QdM.forget (h : QdM X w pd g bm S Ar cr Ao co ents D) (s : Nat) (hm : MapIs w' bm ukey (delE s ents)) (f : Frm (· = bm) w w') : QdM X w' pd g bm S Ar cr Ao co (delE s ents) (D.forget s) :=
  { h with
    blk := h.blk.keep f h.mp
    tab := h.tab.keep f (fun k hk e => h.ms (e ▸ hk))
    map := hm
    keys := by
      show _ = D.waits.filter _
      rw [← h.keys]
      exact delE_keys s ents (by rw [h.keys]; exact h.nd)
    nd := h.nd.filter _
    cnt := fun x hx => h.cnt x (mem_delE s ents x hx)
    rest := h.rest.keep f (fun k hk e => (h.rs k hk).2.2 e)
    out := h.out.keep f (fun k hk e => (h.os k hk).2.2.1 e)
    low := fun k hk => Nat.lt_of_lt_of_le (h.low k hk) f.size }
theorem QdM.setpd (h : QdM X w pd g bm S Ar cr Ao co ents D) (j : Nat) (u : Value) {D2 : Qd} (e1 : D2.t = D.t) (e2 : D2.waits = D.waits) (e3 : D2.rest = D.rest) (e4 : D2.out = D.out) (e5 : D2.lim = D.lim)
    (hb : Blk (w.setCell ⟨pd, j, none⟩ u) pd 122 #[.pointer (some ⟨g, 0, none⟩), .int .i64 D2.lim, .int .i64 D2.blk, .map (some bm), .slice Ar D2.rest.length cr, .slice Ao D2.out.length co, .int .u64 D2.told, .bool D2.bad]) : QdM X (w.setCell ⟨pd, j, none⟩ u) pd g bm S Ar cr Ao co ents D2 := by
  have f : Frm (fun k => k = pd) w (w.setCell ⟨pd, j, none⟩ u) := (Frm.refl (fun k => k = pd) w).setCell (p := ⟨pd, j, none⟩) rfl _
  exact {
    blk := hb
    tab := by rw [e1]; exact h.tab.keep f (fun k hk e => h.ps (e ▸ hk))
    map := h.map.keep f (fun e => h.mp e.symm)
    keys := by rw [e2]; exact h.keys
    nd := by rw [e2]; exact h.nd
    cnt := h.cnt
    rest := by rw [e3]; exact h.rest.keep f (fun k hk e => (h.rs k hk).2.1 e)
    out := by rw [e4]; exact h.out.keep f (fun k hk e => (h.os k hk).2.1 e)
    low := fun k hk => Nat.lt_of_lt_of_le (h.low k hk) f.size
    xp := h.xp, xm := h.xm, xs := h.xs, xo := h.xo, ps := h.ps, ms := h.ms, mp := h.mp, rs := h.rs, os := h.os
    ok := by rw [e1]; exact h.ok
    cap := by rw [e1]; exact h.cap
    lim := by rw [e5]; exact h.lim
    nb := by rw [e1]; exact h.nb
    rl := by rw [e3]; exact h.rl
    ol := by rw [e4]; exact h.ol }
theorem QdM.settold (h : QdM X w pd g bm S Ar cr Ao co ents D) (n : Nat) : QdM X (w.setCell ⟨pd, 6, none⟩ (.int .u64 (n : Int))) pd g bm S Ar cr Ao co ents { D with told := n } :=
  h.setpd 6 _ rfl rfl rfl rfl rfl (by have := h.blk.set_ 6 (.int .u64 (n : Int)); simpa using this)
theorem QdM.setbad (h : QdM X w pd g bm S Ar cr Ao co ents D) (b : Bool) : QdM X (w.setCell ⟨pd, 7, none⟩ (.bool b)) pd g bm S Ar cr Ao co ents { D with bad := b } :=
  h.setpd 7 _ rfl rfl rfl rfl rfl (by have := h.blk.set_ 7 (.bool b); simpa using this)
theorem QdM.setout (h : QdM X w pd g bm S Ar cr Ao co ents D) (f : Frm (New w) w w2) {A2 : Option Addr} {c2 : Nat} {l2 : Bytes} (hr : Rd w2 A2 (bvs l2)) (hb : ∀ k, M.blk A2 = some k → w.heap.size ≤ k ∧ k < w2.heap.size) (hl : l2.length ≤ 1099511627776) :
    QdM (fun k => Own X w k ∧ k < w2.heap.size) (w2.setCell ⟨pd, 5, none⟩ (.slice A2 l2.length c2)) pd g bm S Ar cr A2 c2 ents { D with out := l2 } := by
  have h2 := h.fresh f
  have hpl := h.blk.lt
  have f2 : Frm (fun k => k = pd) w2 (w2.setCell ⟨pd, 5, none⟩ (.slice A2 l2.length c2)) := (Frm.refl (fun k => k = pd) w2).setCell (p := ⟨pd, 5, none⟩) rfl _
  have hx : ∀ k, X k → Own X w k ∧ k < w2.heap.size := fun k hk => ⟨.inl hk, h2.low k hk⟩
  have hin : ∀ k, M.blk A2 = some k → ¬ X k := fun k hk e => by have := (hb k hk).1; have := h.low k e; omega
  exact {
    blk := by have := h2.blk.set_ 5 (.slice A2 l2.length c2); simpa using this
    tab := h2.tab.keep f2 (fun k hk e => h.ps (e ▸ hk))
    map := h2.map.keep f2 (fun e => h.mp e.symm)
    keys := h.keys
    nd := h.nd
    cnt := h.cnt
    rest := (h2.rest.mono hx).keep f2 (fun k hk e => (h.rs k hk).2.1 e)
    out := hr.keep f2 (fun k hk e => by have := (hb k hk).1; omega)
    low := fun k hk => Nat.lt_of_lt_of_le hk.2 f2.size
    xp := hx _ h.xp, xm := hx _ h.xm, xs := fun k hk => hx _ (h.xs k hk), xo := fun k hk => ⟨.inr (hb k hk).1, (hb k hk).2⟩, ps := h.ps, ms := h.ms, mp := h.mp, rs := h.rs
    os := fun k hk => ⟨fun q => hin k hk (h.xs k q), fun q => hin k hk (q ▸ h.xp), fun q => hin k hk (q ▸ h.xm), fun q => hin k hk (h.rest.inM k q)⟩
    ok := h.ok, cap := h.cap, lim := h.lim, nb := h.nb, rl := h.rl, ol := hl }
theorem QdM.clearout (h : QdM X w pd g bm S Ar cr Ao co ents D) : QdM (fun k => X k ∧ M.blk Ao ≠ some k) (w.setCell ⟨pd, 5, none⟩ (.slice none 0 0)) pd g bm S Ar cr none 0 ents { D with out := [] } := by
  have f2 : Frm (fun k => k = pd) w (w.setCell ⟨pd, 5, none⟩ (.slice none 0 0)) := (Frm.refl (fun k => k = pd) w).setCell (p := ⟨pd, 5, none⟩) rfl _
  exact {
    blk := by have := h.blk.set_ 5 (.slice none 0 0); simpa using this
    tab := h.tab.keep f2 (fun k hk e => h.ps (e ▸ hk))
    map := h.map.keep f2 (fun e => h.mp e.symm)
    keys := h.keys
    nd := h.nd
    cnt := h.cnt
    rest := by
      have hr := h.rest.keep f2 (fun k hk e => (h.rs k hk).2.1 e)
      exact { hr with
        inM := fun k hk => ⟨hr.inM k hk, fun q => (h.os k q).2.2.2 hk⟩
        own := fun hc => by
          obtain ⟨g, off, cur, a, b, d, m⟩ := hr.own hc
          exact ⟨g, off, cur, a, b, d, m, fun q => (h.os g q).2.2.2 (by rw [a]; rfl)⟩ }
    out := Rd.nil
    low := fun k hk => Nat.lt_of_lt_of_le (h.low k hk.1) f2.size
    xp := ⟨h.xp, fun q => (h.os pd q).2.1 rfl⟩, xm := ⟨h.xm, fun q => (h.os bm q).2.2.1 rfl⟩, xs := fun k hk => ⟨h.xs k hk, fun q => (h.os k q).1 hk⟩, xo := fun k hk => (by cases hk), ps := h.ps, ms := h.ms, mp := h.mp, rs := h.rs
    os := fun k hk => (by cases hk)
    ok := h.ok, cap := h.cap, lim := h.lim, nb := h.nb, rl := h.rl, ol := by simp }
end
end Go.Proofs.Ytdgggjeiflllhaa.M
namespace Go.Proofs.Ytdgggjeiflllhaa.M
open Go.ChangeShapes Go.WideShapes Go.ChangeAt Go.RowKit
theorem RetB.lt {w w2 : World} {l : Bytes} {A : Option Addr} {c : Nat} (h : App (New w) w2 5 1 A l.length c (bvs l)) (hl : l ≠ []) : ∀ k, M.blk A = some k → w.heap.size ≤ k ∧ k < w2.heap.size := fun k hk => by
  refine ⟨h.inM k hk, ?_⟩
  obtain ⟨g, o, rfl, hl⟩ := h.rd.lt (by cases l with | nil => exact absurd rfl hl | cons x r => simp [bvs])
  cases hk
  exact hl
theorem pfx_ne (f k v : Nat) (l : Bytes) : l ++ pfx f k v ≠ [] := by
  intro e
  have := congrArg List.length e
  have h2 : 0 < (pfx f k v).length := by unfold pfx; split <;> simp
  rw [List.length_append] at this
  simp only [List.length_nil] at this
  omega
def Gone (X : Nat → Prop) (w : World) (A : Option Addr) : Prop := ∀ k, M.blk A = some k → ¬ X k ∧ k < w.heap.size
set_option maxRecDepth 100000 in
set_option maxHeartbeats 1000000 in
theorem qsend_any {X : Nat → Prop} {w : World} {pd g bm : Nat} {D : Qd} (h : QdAt X w pd g bm D) (ho : D.out.length ≤ 1099511627000) (hn : D.t.n ≤ 4611686018427387903) :
    Calls Try.prog 29 #[.pointer (some ⟨pd, 0, none⟩)] w fun e w' => ∃ (X' : Nat → Prop) (A : Option Addr) (c : Nat), e = .returned (.slice A D.send.1.length c) ∧ Rd w' A (bvs D.send.1) ∧ Gone X' w' A ∧ QdAt X' w' pd g bm D.send.2 ∧ Frm (Own X w) w w' ∧ ∀ k, X' k → Own X w k := by
  obtain ⟨S, Ar, cr, Ao, co, ents, h⟩ := h
  have hb := h.blk
  have hy0 := hb.cell 0
  have hy5 := hb.cell 5
  have hy6 := hb.cell 6
  simp only [List.getElem?_toArray, List.getElem?_cons_zero, List.getElem?_cons_succ] at hy0 hy5 hy6
  have hl := hb.lt
  have hz5 := hb.frozen 5
  have hz6 := hb.frozen 6
  obtain ⟨TA, Tc, Ta, Tb, Tew, Ten, hT⟩ := h.tab
  have hcn := tcount_any w hT
  have hX : ∀ k, (X k ∧ M.blk Ao ≠ some k) → Own X w k := fun k hk => .inl hk.1
  by_cases hlt : D.told < D.t.n
  · have hli : (D.told : Int) < (D.t.n : Int) := by omega
    obtain ⟨v, hv⟩ : ∃ v, v = D.t.n - D.told := ⟨_, rfl⟩
    have hwr : IntKind.u64.wrap ((D.t.n : Int) - (D.told : Int)) = (v : Int) := by
      rw [show ((D.t.n : Int) - (D.told : Int)) = (v : Int) by omega]
      exact IntWalk.u64_in _ (by omega)
    have hp := prefix_nat D.out Ao co 0 6 v w h.out (by omega) (by decide) (by decide) (by decide) (by omega)
    have hs1 : D.send.1 = D.out ++ pfx 0 6 v := by unfold Qd.send; rw [hv]; simp only [if_pos hlt]
    have hs2 : D.send.2 = { D with out := [], told := D.t.n } := by unfold Qd.send; rw [show max D.told D.t.n = D.t.n by omega]
    rw [hs1, hs2]
    obtain ⟨l2, hl2⟩ : ∃ l2, l2 = D.out ++ pfx 0 6 v := ⟨_, rfl⟩
    have hl2n : l2 ≠ [] := by rw [hl2]; exact pfx_ne _ _ _ _
    rw [← hl2] at hp hs1 ⊢
    clear hl2
    have H := Lib.hid h
    have HB := Lib.hid hb
    have HCN := Lib.hid hcn
    have HP := Lib.hid hp
    have HV := Lib.hid hv
    have HS1 := Lib.hid hs1
    have HS2 := Lib.hid hs2
    have HT := Lib.hid hT
    clear h hb hcn hp hv hs1 hs2 hT
    go_enter Try.func29, Try.ntmps29
    go_wp2_with (first
      | (go_at_call 32; refine HCN.out.mono ?_; rintro e1 w1 ⟨rfl, hw⟩; rw [hw]; clear hw w1)
      | (go_at_call 43; refine HP.out.mono ?_; rintro e2 w2 ⟨A2, c2, rfl, hA2, hF2⟩; have hyc5 := (HB.out.fresh hF2).cell 5; have hyc6 := (HB.out.fresh hF2).cell 6; have hz5 := (HB.out.fresh hF2).frozen 5; have hz6 := (HB.out.fresh hF2).frozen 6; have hl := (HB.out.fresh hF2).lt))
    go_ret
    have h2 := ((H.out.fresh hF2).settold D.t.n).clearout
    refine ⟨_, A2, c2, rfl, ?_, ?_, ⟨_, _, _, _, _, _, h2⟩, ?_, hX⟩
    · exact (hA2.rd.keep (((Frm.refl (fun k => k = pd) w2).setCell (p := ⟨pd, 6, none⟩) rfl _).setCell (p := ⟨pd, 5, none⟩) rfl _) (fun k hk e => by have := hA2.inM k hk; have := H.out.blk.lt; unfold New at *; omega))
    · intro k hk
      have hq := RetB.lt hA2 hl2n k hk
      exact ⟨fun e => by have := H.out.low k e.1; omega, by simpa using hq.2⟩
    · exact ((hF2.mono (fun k hk => .inr hk)).setCell (p := ⟨pd, 6, none⟩) (.inl H.out.xp) _).setCell (p := ⟨pd, 5, none⟩) (.inl H.out.xp) _
  · have hli : ¬ (D.told : Int) < (D.t.n : Int) := by omega
    have hs1 : D.send.1 = D.out := by unfold Qd.send; simp only [if_neg hlt]
    have hs2 : D.send.2 = { D with out := [] } := by unfold Qd.send; rw [show max D.told D.t.n = D.told by omega]
    rw [hs1, hs2]
    have H := Lib.hid h
    have HB := Lib.hid hb
    have HCN := Lib.hid hcn
    have HS1 := Lib.hid hs1
    have HS2 := Lib.hid hs2
    have HT := Lib.hid hT
    clear h hb hcn hs1 hs2 hT
    go_enter Try.func29, Try.ntmps29
    go_wp2_with (go_at_call 32; refine HCN.out.mono ?_; rintro e1 w1 ⟨rfl, hw⟩; rw [hw]; clear hw w1)
    go_ret
    have f2 : Frm (fun k => k = pd) w (w.setCell ⟨pd, 5, none⟩ (.slice none 0 0)) := (Frm.refl (fun k => k = pd) w).setCell (p := ⟨pd, 5, none⟩) rfl _
    exact ⟨_, Ao, co, rfl, H.out.out.keep f2 (fun k hk e => (H.out.os k hk).2.1 e), fun k hk => ⟨fun q => q.2 hk, by simpa using H.out.low k (H.out.xo k hk)⟩, ⟨_, _, _, _, _, _, H.out.clearout⟩, f2.mono (fun k hk => .inl (hk ▸ H.out.xp)), hX⟩
theorem qnew_end {w w2 : World} {S : Nat → Prop} {g a b0 c b : Nat} {u v : Int} (hT : TabAt S w2 g [] 0 0 none 0 a b0 [] []) (hF : Frm (New w) w w2) (hS : ∀ k, S k → w.heap.size ≤ k) (hu : u = (c : Int)) (hv : v = (b : Int)) (hle : c ≤ 4096) :
    ∃ (X : Nat → Prop) (pd g' bm : Nat), Ending.returned (.pointer (some ⟨w2.heap.size + 1, 0, none⟩)) = .returned (.pointer (some ⟨pd, 0, none⟩)) ∧ QdAt X ((w2.alloc (Obj.map #[] 0)).alloc (Obj.cells #[.pointer (some ⟨g, 0, none⟩), .int .i64 u, .int .i64 v, .map (some w2.heap.size), .slice none 0 0, .slice none 0 0, .int .u64 0, .bool false] 122)) pd g' bm ⟨⟨[], 0, 0⟩, c, b, [], [], [], 0, false⟩ ∧
      Frm (New w) w ((w2.alloc (Obj.map #[] 0)).alloc (Obj.cells #[.pointer (some ⟨g, 0, none⟩), .int .i64 u, .int .i64 v, .map (some w2.heap.size), .slice none 0 0, .slice none 0 0, .int .u64 0, .bool false] 122)) ∧ ∀ k, X k → w.heap.size ≤ k := by
  subst hu hv
  have hs := hF.size
  have f1 : Frm (New w2) w2 (w2.alloc (Obj.map #[] 0)) := (Frm.refl _ _).alloc Up.new _
  have hm := MapIs.new w2 ukey
  have hsz : (w2.alloc (Obj.map #[] 0)).heap.size = w2.heap.size + 1 := by simp
  have hT1 := hT.fresh f1
  generalize w2.alloc (Obj.map #[] 0) = w3 at *
  have f2 := (Frm.refl (New w3) w3).alloc Up.new (Obj.cells #[.pointer (some ⟨g, 0, none⟩), .int .i64 (c : Int), .int .i64 (b : Int), .map (some w2.heap.size), .slice none 0 0, .slice none 0 0, .int .u64 0, .bool false] 122)
  have hb := Blk.new w3 122 #[.pointer (some ⟨g, 0, none⟩), .int .i64 (c : Int), .int .i64 (b : Int), .map (some w2.heap.size), .slice none 0 0, .slice none 0 0, .int .u64 0, .bool false]
  rw [hsz] at hb
  have hsz2 : (w3.alloc (Obj.cells #[.pointer (some ⟨g, 0, none⟩), .int .i64 (c : Int), .int .i64 (b : Int), .map (some w2.heap.size), .slice none 0 0, .slice none 0 0, .int .u64 0, .bool false] 122)).heap.size = w2.heap.size + 2 := by simp [hsz]
  refine ⟨fun k => S k ∨ k = w2.heap.size ∨ k = w2.heap.size + 1, _, g, w2.heap.size, rfl, ⟨S, none, 0, none, 0, [], ?_⟩, (hF.then_new Up.new f1).then_new Up.new f2, fun k hk => ?_⟩
  · exact {
      blk := hb
      tab := ⟨none, 0, a, b0, [], [], hT1.fresh f2⟩
      map := hm.fresh f2
      keys := rfl
      nd := List.nodup_nil
      cnt := fun x hx => (by cases hx)
      rest := App.none_
      out := Rd.nil
      low := fun k hk => by
        rw [hsz2]
        rcases hk with hk | hk | hk
        · have := hT.low k hk; omega
        · omega
        · omega
      xp := .inr (.inr rfl), xm := .inr (.inl rfl), xs := fun k hk => .inl hk, xo := fun k hk => (by cases hk)
      ps := fun hk => by have := hT.low _ hk; omega
      ms := fun hk => by have := hT.low _ hk; omega
      mp := by omega
      rs := fun k hk => (by cases hk), os := fun k hk => (by cases hk)
      ok := ⟨Nat.le_refl _, Nat.le_refl _⟩, cap := Nat.zero_le _, lim := hle, nb := Nat.zero_le _, rl := Nat.zero_le _, ol := Nat.zero_le _ }
  · rcases hk with hk | hk | hk
    · exact hS k hk
    · omega
    · omega
set_option maxRecDepth 100000 in
set_option maxHeartbeats 1000000 in
theorem qnew_any (n k : Int) (n0 : -9223372036854775808 ≤ n) (n1 : n ≤ 9223372036854775807) (k0 : -9223372036854775808 ≤ k) (k1 : k ≤ 9223372036854775807) (w : World) :
    Calls Try.prog 25 #[.int .i64 n, .int .i64 k] w fun e w' => ∃ (X : Nat → Prop) (pd g bm : Nat), e = .returned (.pointer (some ⟨pd, 0, none⟩)) ∧ QdAt X w' pd g bm ⟨⟨[], 0, 0⟩, lim n, (max k 0).toNat, [], [], [], 0, false⟩ ∧ Frm (New w) w w' ∧ ∀ k, X k → w.heap.size ≤ k := by
  have hl : ((lim n : Nat) : Int) = min (max n 0) 4096 := by unfold lim; omega
  have hm : ((max k 0).toNat : Int) = max k 0 := by omega
  have hle := lim_le n
  generalize lim n = c at *
  generalize (max k 0).toNat = b at *
  have HL := Lib.hid hl
  have HM := Lib.hid hm
  have HLE := Lib.hid hle
  clear hl hm hle
  go_enter Try.func25, Try.ntmps25
  go_wp2_with (go_at_call 39; refine (tnew_any 0 (by omega) _).mono ?_; rintro e w2 ⟨S, g, a, b, rfl, hT, hF, hS⟩; have hT := Lib.hid hT; have hF := Lib.hid hF; have hS := Lib.hid hS)
  all_goals rw [run_makeMap]
  all_goals go_wp2_with (fail)
  all_goals go_ret
  all_goals exact qnew_end hT.out hF.out hS.out (by have := HL.out; omega) (by have := HM.out; omega) HLE.out
end Go.Proofs.Ytdgggjeiflllhaa.M

