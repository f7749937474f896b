/- Tab -/
import Derived.Test.YtdgggjeiflllhaaZyKey
import Derived.Test.YtdgggjeiflllhaaZyMap
import Derived.Deep.RegionWith
import Derived.StillTailTactics
import Derived.Deep.CutRange
import Derived.Deep.RegionHeld3
import Derived.Test.YtdgggjeiflllhaaZyArr
import Derived.Deep.RegionLaw

namespace Go.Proofs.Ytdgggjeiflllhaa.M
open Go.ChangeShapes Go.WideShapes Go.ChangeAt Go.RowKit
section pure
variable {κ : Type} [DecidableEq κ]
def lastAt (key : Fld → κ) (k : κ) : Nat → List Fld → Option Nat
  | _, [] => none
  | b, x :: r => match lastAt key k (b + 1) r with
    | some i => some i
    | none => if key x = k then some b else none
theorem lastAt_range (key : Fld → κ) (k : κ) : ∀ (l : List Fld) (b i : Nat), lastAt key k b l = some i → b ≤ i ∧ i < b + l.length
  | [], b, i, h => by cases h
  | x :: r, b, i, h => by
    unfold lastAt at h
    cases hr : lastAt key k (b + 1) r with
    | some j =>
      rw [hr] at h
      obtain ⟨h1, h2⟩ := lastAt_range key k r (b + 1) j hr
      simp at h
      subst h
      simp only [List.length_cons]; omega
    | none =>
      rw [hr] at h
      simp only at h
      split at h
      · simp at h; subst h; simp only [List.length_cons]; omega
      · cases h
theorem lastAt_snoc (key : Fld → κ) (k : κ) (x : Fld) : ∀ (l : List Fld) (b : Nat), lastAt key k b (l ++ [x]) = if key x = k then some (b + l.length) else lastAt key k b l
  | [], b => by simp [lastAt]
  | y :: r, b => by
    rw [List.cons_append, lastAt, lastAt_snoc key k x r (b + 1), lastAt]
    by_cases h : key x = k
    · simp [h]; omega
    · simp [h]
def MapInv (key : Fld → κ) (b : Nat) (l : List Fld) (ents : List (κ × Value)) : Prop :=
  (ents.map (·.1)).Nodup ∧ ∀ k, getE k ents = (lastAt key k b l).map fun i => Value.int .u64 (i : Int)
theorem MapInv.nil (key : Fld → κ) (b : Nat) : MapInv key b [] [] := ⟨by simp, fun k => rfl⟩
theorem MapInv.snoc {key : Fld → κ} {b : Nat} {l : List Fld} {ents : List (κ × Value)} (h : MapInv key b l ents) (x : Fld) :
    MapInv key b (l ++ [x]) (putE (key x) (.int .u64 ((b + l.length : Nat) : Int)) ents) := by
  refine ⟨nodup_put _ _ _ h.1, fun k => ?_⟩
  rw [getE_put, lastAt_snoc, h.2]
  by_cases e : k = key x
  · simp [e]
  · rw [if_neg e, if_neg (fun c => e c.symm)]
theorem MapInv.gone {key : Fld → κ} {b : Nat} {x : Fld} {l : List Fld} {ents : List (κ × Value)} (h : MapInv key b (x :: l) ents) (hl : lastAt key (key x) (b + 1) l = none) :
    MapInv key (b + 1) l (delE (key x) ents) := by
  refine ⟨nodup_del _ _ h.1, fun k => ?_⟩
  rw [getE_del _ _ _ h.1, h.2, lastAt]
  by_cases e : k = key x
  · subst e; rw [if_pos rfl, hl]; rfl
  · rw [if_neg e]
    cases lastAt key k (b + 1) l with
    | some i => rfl
    | none => simp; exact fun c => e c.symm
theorem MapInv.stay {key : Fld → κ} {b : Nat} {x : Fld} {l : List Fld} {ents : List (κ × Value)} (h : MapInv key b (x :: l) ents) {i : Nat} (hl : lastAt key (key x) (b + 1) l = some i) :
    MapInv key (b + 1) l ents := by
  refine ⟨h.1, fun k => ?_⟩
  rw [h.2, lastAt]
  cases e : lastAt key k (b + 1) l with
  | some i => rfl
  | none =>
    have : key x ≠ k := fun c => by rw [← c, hl] at e; cases e
    simp [this]
end pure
def evict (room cap : Nat) : List Fld → List Fld
  | [] => []
  | f :: r => if cap < fsizes (f :: r) + room then evict room cap r else f :: r
theorem evict_length (room cap : Nat) : ∀ l, (evict room cap l).length ≤ l.length
  | [] => Nat.le_refl _
  | f :: r => by
    unfold evict
    split
    · have := evict_length room cap r; simp; omega
    · exact Nat.le_refl _
theorem evict_fits (room cap : Nat) (h : room ≤ cap) : ∀ l, fsizes (evict room cap l) + room ≤ cap
  | [] => by simp [evict, fsizes]; exact h
  | f :: r => by
    unfold evict
    split
    · exact evict_fits room cap h r
    · omega
theorem evict_all (room cap : Nat) (h : cap < room) : ∀ l, evict room cap l = []
  | [] => rfl
  | f :: r => by
    unfold evict
    rw [if_pos (by omega), evict_all room cap h r]
structure Tb where
  l : List Fld
  n : Nat
  cap : Nat
def Tb.first (T : Tb) : Nat := T.n - T.l.length
def Tb.fit (T : Tb) (room : Nat) : Tb := { T with l := evict room T.cap T.l }
def Tb.add (T : Tb) (f : Fld) : Tb := if fsize f ≤ T.cap then ⟨evict (fsize f) T.cap T.l ++ [f], T.n + 1, T.cap⟩ else ⟨[], T.n, T.cap⟩
def Tb.resize (T : Tb) (c : Nat) : Tb := ⟨evict 0 c T.l, T.n, c⟩
structure Tb.Ok (T : Tb) : Prop where
  le : T.l.length ≤ T.n
  fits : fsizes T.l ≤ T.cap
theorem fsizes_nil : fsizes [] = 0 := rfl
theorem fsizes_cons (f : Fld) (l : List Fld) : fsizes (f :: l) = fsize f + fsizes l := by simp [fsizes]
theorem len_fsizes : ∀ l, 32 * l.length ≤ fsizes l
  | [] => Nat.le_refl _
  | f :: l => by have := len_fsizes l; rw [fsizes_cons]; unfold fsize; simp only [List.length_cons]; omega
theorem Tb.Ok.add {T : Tb} (h : T.Ok) (f : Fld) : (T.add f).Ok := by
  have h1 := h.le
  have h2 := evict_length (fsize f) T.cap T.l
  unfold Tb.add
  split
  · rename_i hf
    have h3 := evict_fits (fsize f) T.cap hf T.l
    exact ⟨by simp; omega, by simp only [fsizes_snoc]; exact h3⟩
  · exact ⟨Nat.zero_le _, Nat.zero_le _⟩
theorem Tb.Ok.resize {T : Tb} (h : T.Ok) (c : Nat) : (T.resize c).Ok := by
  have h1 := h.le
  have h2 := evict_length 0 c T.l
  have h3 := evict_fits 0 c (Nat.zero_le _) T.l
  exact ⟨by simp [Tb.resize]; omega, by simp [Tb.resize]; omega⟩
def Tb.find (T : Tb) (f : Fld) : Nat × Bool × Bool :=
  match lastAt id f T.first T.l with
  | some i => (i, true, true)
  | none => match lastAt Prod.fst f.1 T.first T.l with
    | some i => (i, true, false)
    | none => (0, false, false)
end Go.Proofs.Ytdgggjeiflllhaa.M
namespace Go.Proofs.Ytdgggjeiflllhaa.M
open Go.ChangeShapes Go.WideShapes Go.ChangeAt Go.RowKit
def Own (S : Nat → Prop) (w : World) (k : Nat) : Prop := S k ∨ w.heap.size ≤ k
theorem Own.up (S : Nat → Prop) (w : World) : Up (Own S w) w := fun _ h => .inr h
structure TabAt (S : Nat → Prop) (w : World) (g : Nat) (l : List Fld) (n cap : Nat) (A : Option Addr) (c a b : Nat) (ew : List (Fld × Value)) (en : List (Bytes × Value)) : Prop where
  blk : Blk w g 139 #[.slice A l.length c, .int .u64 n, .int .i64 cap, .int .i64 (fsizes l : Nat), .map (some a), .map (some b)]
  mw : MapIs w a fld ew
  mn : MapIs w b str en
  app : App S w 71 2 A l.length c (fvs l)
  sg : S g
  sa : S a
  sb : S b
  low : ∀ k, S k → k < w.heap.size
  ab : a ≠ b
  ga : g ≠ a
  gb : g ≠ b
  gA : ∀ k, M.blk A = some k → k ≠ g ∧ k ≠ a ∧ k ≠ b
  iw : MapInv id (n - l.length) l ew
  im : MapInv Prod.fst (n - l.length) l en
  le : l.length ≤ n
  nb : n ≤ 1152921504606846976
  cb : cap ≤ 1152921504606846976
  fb : fsizes l ≤ 1152921504606846976
section
variable {S R M : Nat → Prop} {w w' : World} {g n cap c a b : Nat} {l : List Fld} {A : Option Addr} {ew : List (Fld × Value)} {en : List (Bytes × Value)}
theorem TabAt.keep (h : TabAt S w g l n cap A c a b ew en) (f : Frm M w w') (hM : ∀ k, S k → ¬ M k) : TabAt S w' g l n cap A c a b ew en :=
  { h with
    blk := h.blk.keep f (hM _ h.sg)
    mw := h.mw.keep f (hM _ h.sa)
    mn := h.mn.keep f (hM _ h.sb)
    app := h.app.keep f (fun k hk => hM k (h.app.inM k hk))
    low := fun k hk => Nat.lt_of_lt_of_le (h.low k hk) f.size }
theorem TabAt.fresh (h : TabAt S w g l n cap A c a b ew en) (f : Frm (New w) w w') : TabAt S w' g l n cap A c a b ew en :=
  h.keep f (fun k hk c => by have := h.low k hk; unfold New at c; omega)
theorem TabAt.far (h : TabAt R w g l n cap A c a b ew en) (f : Frm (Own S w) w w') (hS : ∀ k, R k → ¬ S k) : TabAt R w' g l n cap A c a b ew en :=
  h.keep f (fun k hk c => by
    rcases c with c | c
    · exact hS k hk c
    · have := h.low k hk; omega)
theorem TabAt.drewN (h : TabAt S w g l n cap A c a b ew en) (k : Nat) : TabAt S (w.drewN k) g l n cap A c a b ew en := h.fresh ((Frm.refl _ _).drewN k)
theorem TabAt.drew (h : TabAt S w g l n cap A c a b ew en) : TabAt S w.drew g l n cap A c a b ew en := h.fresh ((Frm.refl _ _).drew)
end
theorem App.tail {M : Nat → Prop} {w : World} {e size n c : Nat} {A : Option Addr} {xs : List Value} (h : App M w e size A (n + 1) c xs) :
    App M w e size (if c = 1 then A else A.map (·.add size)) n (c - 1) (xs.drop size) := by
  have hc := h.cap
  have hm := h.max
  refine ⟨by rw [List.length_drop, h.len, Nat.add_mul]; omega, by omega, by omega, fun hA => ?_, ?_, fun k hk => ?_, fun hn => ?_⟩
  · have : A = none := by
      split at hA
      · exact hA
      · cases A with
        | none => rfl
        | some x => cases hA
    have := h.nil_ this
    omega
  · intro j u hu
    rw [List.getElem?_drop] at hu
    obtain ⟨g, off, rfl, hx⟩ := h.rd _ u hu
    have h1 : size + j < xs.length := (List.getElem?_eq_some_iff.1 hu).1
    rw [h.len, Nat.add_mul, Nat.one_mul] at h1
    have hn0 : n ≠ 0 := fun e => by subst e; omega
    rw [if_neg (by omega)]
    exact ⟨g, off + size, by simp [Addr.add_lit], by rw [Nat.add_assoc]; exact hx⟩
  · refine h.inM k ?_
    split at hk
    · exact hk
    · cases A with
      | none => cases hk
      | some x =>
        have e : (x.add size).block = x.block := by unfold Addr.add; split <;> rfl
        rw [← hk]; exact congrArg some e.symm
  · obtain ⟨g, off, cur, rfl, h2, h3, h4⟩ := h.own (by omega)
    rw [if_neg (by omega)]
    refine ⟨g, off + size, cur, by simp [Addr.add_lit], h2, ?_, h4⟩
    rw [Nat.add_assoc, Nat.add_comm size, ← Nat.succ_mul]
    rw [show Nat.succ (c - 1) = c from by omega]
    exact h3
theorem run_tail {P : Program} {o : Oper} {a : Act} {w : World} {t e : TypeId} {x : Operand} {A : Option Addr} {n c size : Nat} (ho : o.op = .slice t x (some (.const (.int .i64 1))) none none) (hx : a.eval x = .slice A (n + 1) c) (hc : n + 1 ≤ c)
    (ht : P.underlying t = some (.slice e)) (hs : (P.info? e).map (·.size) = some size) :
    (execOp a.eval o).run P w = .ok (.value (.slice (if c = 1 then A else A.map (·.add size)) n (c - 1))) w := by
  cases hi : P.info? e with
  | none => rw [hi] at hs; cases hs
  | some i =>
    rw [hi] at hs
    have hs' : i.size = size := by simpa using hs
    subst hs'
    unfold execOp
    have h1 : (1 : Int) ≤ c := by omega
    have h2 : (1 : Int) ≤ n + 1 := by omega
    have hk : a.eval (.const (.int .i64 1)) = .int .i64 1 := rfl
    simp only [ho, Option.map_some, Option.map_none, hk, hx]
    simp [Instr.sliceAt, Instr.slice, Instr.sliceBounds, Instr.sliceBound, run_underlying ht, sizeOf, typeInfo, hi, asIntOf, h2]
set_option maxRecDepth 100000 in
set_option maxHeartbeats 1000000 in
theorem tfirst_any (A : Option Addr) (g m c n : Nat) (w : World) (hd0 : w.cell? ⟨g, 0, none⟩ = some (.slice A m c)) (hd1 : w.cell? ⟨g, 1, none⟩ = some (.int .u64 n)) (hm : m ≤ n) (hn : n ≤ 1152921504606846976) :
    Calls Try.prog 138 #[.pointer (some ⟨g, 0, none⟩)] w fun e w' => e = .returned (.int .u64 ((n - m : Nat) : Int)) ∧ ∃ k, w' = w.drewN k := by
  have hl : g < w.heap.size := World.block_lt_of_cell? _ _ hd0
  go_enter Try.func138, Try.ntmps138
  go_wp2
  go_quiet (fail)
  go_wp2
  go_ret
  refine ⟨?_, _, rfl⟩
  refine ret_int ?_
  omega
end Go.Proofs.Ytdgggjeiflllhaa.M
namespace Go.Proofs.Ytdgggjeiflllhaa.M
open Go.ChangeShapes Go.WideShapes Go.ChangeAt Go.RowKit
set_option maxRecDepth 100000 in
set_option maxHeartbeats 1000000 in
theorem dnew_any (c : Nat) (hc : c ≤ 4611686018427387903) (w : World) :
    Calls Try.prog 39 #[.int .i64 c] w fun e w' => ∃ g a b : Nat, e = .returned (.pointer (some ⟨g, 0, none⟩)) ∧ w.heap.size ≤ a ∧ a < b ∧ b < g ∧
      Blk w' g 139 #[.slice none 0 0, .int .u64 0, .int .i64 c, .int .i64 0, .map (some a), .map (some b)] ∧ MapIs w' a fld [] ∧ MapIs w' b str [] ∧ Frm (New w) w w' := by
  go_enter Try.func39, Try.ntmps39
  go_wp2
  rw [run_makeMap]
  go_wp2
  rw [run_makeMap]
  go_wp2
  go_ret
  have f1 := (Frm.refl (New w) w).alloc Up.new (Obj.map #[] 0)
  have h1 := MapIs.new w fld
  generalize ha : w.alloc (Obj.map #[] 0) = w1 at *
  have hs1 : w1.heap.size = w.heap.size + 1 := by rw [← ha]; simp
  have h2 := MapIs.new w1 str
  have f2 := (Frm.refl (New w1) w1).alloc Up.new (Obj.map #[] 0)
  have h1 := h1.fresh f2
  generalize hb : w1.alloc (Obj.map #[] 0) = w2 at *
  have hs2 : w2.heap.size = w1.heap.size + 1 := by rw [← hb]; simp
  have f3 := fun o => (Frm.refl (New w2) w2).alloc Up.new o
  rw [hs1] at h2
  refine ⟨w.heap.size + 1 + 1, w.heap.size, w.heap.size + 1, rfl, Nat.le_refl _, by omega, by omega, ?_, h1.fresh (f3 _), h2.fresh (f3 _), (f1.then_new Up.new f2).then_new Up.new (f3 _)⟩
  rw [← hs1, ← hs2]
  exact Blk.new w2 _ _
end Go.Proofs.Ytdgggjeiflllhaa.M
namespace Go.Proofs.Ytdgggjeiflllhaa.M
open Go.ChangeShapes Go.WideShapes Go.ChangeAt Go.RowKit
section
variable {S : Nat → Prop} {g n cap c a b : Nat} {l : List Fld} {A : Option Addr} {ew : List (Fld × Value)} {en : List (Bytes × Value)}
set_option maxRecDepth 100000 in
theorem tcap_any (w : World) (h : TabAt S w g l n cap A c a b ew en) :
    Calls Try.prog 42 #[.pointer (some ⟨g, 0, none⟩)] w fun e w' => e = .returned (.int .i64 cap) ∧ w' = w := by
  have hd := h.blk.cell 2
  have hl : g < w.heap.size := h.blk.lt
  simp only [List.getElem?_toArray, List.getElem?_cons_zero, List.getElem?_cons_succ] at hd
  clear h
  go_enter Try.func42, Try.ntmps42
  go_wp2
  go_ret
  exact ⟨rfl, rfl⟩
set_option maxRecDepth 100000 in
theorem tcount_any (w : World) (h : TabAt S w g l n cap A c a b ew en) :
    Calls Try.prog 32 #[.pointer (some ⟨g, 0, none⟩)] w fun e w' => e = .returned (.int .u64 n) ∧ w' = w := by
  have hd := h.blk.cell 1
  have hl : g < w.heap.size := h.blk.lt
  simp only [List.getElem?_toArray, List.getElem?_cons_zero, List.getElem?_cons_succ] at hd
  clear h
  go_enter Try.func32, Try.ntmps32
  go_wp2
  go_ret
  exact ⟨rfl, rfl⟩
end
end Go.Proofs.Ytdgggjeiflllhaa.M
namespace Go.Proofs.Ytdgggjeiflllhaa.M
open Go.ChangeShapes Go.WideShapes Go.ChangeAt Go.RowKit
theorem tnew_any (c : Nat) (hc : c ≤ 1152921504606846976) (w : World) :
    Calls Try.prog 39 #[.int .i64 c] w fun e w' => ∃ (S : Nat → Prop) (g a b : Nat), e = .returned (.pointer (some ⟨g, 0, none⟩)) ∧ TabAt S w' g [] 0 c none 0 a b [] [] ∧ Frm (New w) w w' ∧ ∀ k, S k → w.heap.size ≤ k := by
  refine (dnew_any c (by omega) w).mono ?_
  rintro e w' ⟨g, a, b, rfl, h1, h2, h3, hb, hm, hn, hF⟩
  refine ⟨fun k => k = g ∨ k = a ∨ k = b, g, a, b, rfl, ⟨hb, hm, hn, App.none_, .inl rfl, .inr (.inl rfl), .inr (.inr rfl), ?_, by omega, by omega, by omega, fun k hk => (by cases hk), MapInv.nil _ _, MapInv.nil _ _, Nat.le_refl _, Nat.zero_le _, hc, Nat.zero_le _⟩, hF, ?_⟩
  · rintro k (rfl | rfl | rfl)
    · exact hb.lt
    · exact hm.lt
    · exact hn.lt
  · rintro k (rfl | rfl | rfl) <;> omega
end Go.Proofs.Ytdgggjeiflllhaa.M
namespace Go.Proofs.Ytdgggjeiflllhaa.M
open Go.ChangeShapes Go.WideShapes Go.ChangeAt Go.RowKit
set_option maxRecDepth 100000 in
set_option maxHeartbeats 1000000 in
theorem fit_any {S : Nat → Prop} {g n cap c a b : Nat} {l : List Fld} {A : Option Addr} {ew : List (Fld × Value)} {en : List (Bytes × Value)} (room : Nat) (w : World)
    (h : TabAt S w g l n cap A c a b ew en) (hr : room ≤ 1152921504606846976) :
    Calls Try.prog 135 #[.pointer (some ⟨g, 0, none⟩), .int .i64 room] w fun e w' => e = .returned (.int .i64 ((l.length - (evict room cap l).length : Nat) : Int)) ∧
      ∃ A' c' ew' en', TabAt S w' g (evict room cap l) n cap A' c' a b ew' en' ∧ Frm (Own S w) w w' := by
  have hcb := h.cb
  have hlb := h.le
  have hnb := h.nb
  have H := Lib.hid h
  clear h
  go_enter Try.func135, Try.ntmps135
  go_wp2
  go_loopw [5] (fun i wr => ∃ (k : Nat) (l' : List Fld) (A' : Option Addr) (c' : Nat) (ew' : List (Fld × Value)) (en' : List (Bytes × Value)), i = .int .i64 k ∧ k + l'.length = l.length ∧
      Hid (evict room cap l' = evict room cap l) ∧ Hid (TabAt S wr g l' n cap A' c' a b ew' en') ∧ Hid (Frm (Own S w) w wr)) (fun i _ => l.length - (intOf i).toNat)
  case atStart => exact ⟨0, l, A, c, ew, en, rfl, by omega, rfl, H, Frm.refl _ _⟩
  case round =>
    obtain ⟨k, l', A', c', ew', en', rfl, hk, hE, hT, hF⟩ := hrel
    clear H
    obtain ⟨hb, hmw, hmn, hA, hsg, hsa, hsb, hlow, hab, hga, hgb, hgA, hiw, him, hle, _, _, hfb⟩ := hT.out
    have hd0 := hb.cell 0
    have hd1 := hb.cell 1
    have hd2 := hb.cell 2
    have hd3 := hb.cell 3
    have hd4 := hb.cell 4
    have hd5 := hb.cell 5
    have hl : g < wr.heap.size := hb.lt
    simp only [List.getElem?_toArray, List.getElem?_cons_zero, List.getElem?_cons_succ] at hd0 hd1 hd2 hd3 hd4 hd5
    have HB := Lib.hid hb
    have HMW := Lib.hid hmw
    have HMN := Lib.hid hmn
    have HA := Lib.hid hA
    have HG := Lib.hid hgA
    have HIW := Lib.hid hiw
    have HIM := Lib.hid him
    have hT2 := Lib.hid hT.out
    clear hb hmw hmn hA hgA hiw him hT
    cases l' with
    | nil =>
      simp only [List.length_nil] at hd0 hk
      have hE2 : Hid (evict room cap l = []) := hE.out.symm
      go_wp2
      go_quiet (fail)
      go_wp2
      go_ret
      rw [hE2.out]
      refine ⟨?_, A', c', ew', en', hT2.out.drewN _, hF.out.drewN _⟩
      show Ending.returned (.int .i64 (k : Int)) = _
      refine ret_int ?_
      simp; omega
    | cons f r =>
      simp only [List.length_cons] at hd0 hk
      have hsz1 : Hid (fsizes (f :: r) = fsize f + fsizes r) := fsizes_cons f r
      have hfb2 := hfb
      rw [fsizes_cons] at hfb2
      have hR := HA.out.rd
      obtain ⟨gA, off, rfl, hx⟩ := hR.at_ (k := 0) (by rw [fvs_length]; simp)
      clear hx
      obtain ⟨hc1, hc2⟩ := fld_cells hR 0 (by simp)
      have hgA1 : gA < wr.heap.size := World.block_lt_of_cell? _ _ hc1
      simp only [Nat.zero_mul, Nat.add_zero, List.getElem_cons_zero] at hc1 hc2
      have HR := Lib.hid hR
      clear hR
      generalize hsz : fsizes (f :: r) = sz at *
      by_cases hq : cap < sz + room
      · have hE2 : Hid (evict room cap (f :: r) = evict room cap r) := by show _ = _; rw [evict, hsz, if_pos hq]
        clear hsz
        obtain ⟨f1, f2⟩ := f
        simp only [str] at hc1 hc2
        go_wp2
        go_quiet (fail)
        go_wp2
        have hF1 : Hid (Frm (Own S w) w (wr.drewN nq)) := hF.out.drewN _
        have hT1 : Hid (TabAt S (wr.drewN nq) g ((f1, f2) :: r) n cap (some ⟨gA, off, none⟩) c' a b ew' en') := hT2.out.drewN _
        replace hd0 : (wr.drewN nq).cell? ⟨g, 0, none⟩ = some (.slice (some ⟨gA, off, none⟩) (r.length + 1) c') := hd0
        replace hd1 : (wr.drewN nq).cell? ⟨g, 1, none⟩ = some (.int .u64 n) := hd1
        replace hc1 : (wr.drewN nq).cell? ⟨gA, off, none⟩ = some (.string ⟨f1.toArray⟩) := hc1
        replace hc2 : (wr.drewN nq).cell? ⟨gA, off + 1, none⟩ = some (.string ⟨f2.toArray⟩) := hc2
        clear hd2 hd3 hd4 hd5 hF hT2 HB HA HR HMW HMN
        generalize wr.drewN nq = w1 at *
        have hn0 := World.new_ne w1 _ hd0
        have hn1 := World.new_ne w1 _ hc1
        go_cut [5, 6, 7] from 8 to 82 (fun v5 v6 v7 w2 => v5 = .int .i64 k ∧ ∃ fb : Nat, v6 = .pointer (some ⟨fb, 0, none⟩) ∧ v7 = .int .u64 ((n - (r.length + 1) : Nat) : Int) ∧ w1.heap.size ≤ fb ∧ Blk w2 fb 71 #[.string ⟨f1.toArray⟩, .string ⟨f2.toArray⟩] ∧ Frm (New w1) w1 w2)
        case first =>
          have hy0 : ∀ m : Nat, ((w1.drewN m).alloc (Obj.cells #[.string ⟨#[]⟩, .string ⟨#[]⟩] 71)).cell? ⟨w1.heap.size, 0, none⟩ = some (.string ⟨#[]⟩) := fun m => (Blk.new (w1.drewN m) 71 #[.string ⟨#[]⟩, .string ⟨#[]⟩]).cell 0
          have hy1 : ∀ m : Nat, ((w1.drewN m).alloc (Obj.cells #[.string ⟨#[]⟩, .string ⟨#[]⟩] 71)).cell? ⟨w1.heap.size, 1, none⟩ = some (.string ⟨#[]⟩) := fun m => (Blk.new (w1.drewN m) 71 #[.string ⟨#[]⟩, .string ⟨#[]⟩]).cell 1
          have hy2 : ∀ m i : Nat, ((w1.drewN m).alloc (Obj.cells #[.string ⟨#[]⟩, .string ⟨#[]⟩] 71)).frozen? ⟨w1.heap.size, i, none⟩ = false := fun m i => (Blk.new (w1.drewN m) 71 #[.string ⟨#[]⟩, .string ⟨#[]⟩]).frozen i
          go_region_held3 (fun w' => w'.cell? ⟨g, 0, none⟩ = some (.slice (some ⟨gA, off, none⟩) (r.length + 1) c') ∧ w'.cell? ⟨g, 1, none⟩ = some (.int .u64 n) ∧ w'.cell? ⟨gA, off, none⟩ = some (.string ⟨f1.toArray⟩) ∧ w'.cell? ⟨gA, off + 1, none⟩ = some (.string ⟨f2.toArray⟩))
            (go_keep)
            (first
              | (go_at_call 138
                 refine (tfirst_any (some ⟨gA, off, none⟩) g (r.length + 1) c' n _ (by first | exact hd0 | (go_split_ands; assumption)) (by first | exact hd1 | (go_split_ands; assumption)) (by omega) hnb).mono ?_
                 rintro e w2 ⟨rfl, nn, rfl⟩)
              | fail)
          all_goals clear hy0 hy1 hy2
          all_goals go_wp2
          all_goals go_meet
          all_goals refine ⟨rfl, w1.heap.size, rfl, rfl, Nat.le_refl _, ?_, ?_⟩
          all_goals first
            | exact ((Blk.new (w1.drewN _) 71 #[.string ⟨#[]⟩, .string ⟨#[]⟩]).set_ 0 (.string ⟨f1.toArray⟩)).set_ 1 (.string ⟨f2.toArray⟩)
            | exact ((((Frm.refl (New w1) w1).drewN _).alloc Up.new _).setCell (Nat.le_refl _) _).setCell (Nat.le_refl _) _
            | exact (((Blk.new w1 71 #[.string ⟨#[]⟩, .string ⟨#[]⟩]).drewN _).set_ 0 (.string ⟨f1.toArray⟩)).set_ 1 (.string ⟨f2.toArray⟩)
            | exact ((((Frm.refl (New w1) w1).alloc Up.new _).drewN _).setCell (Nat.le_refl _) _).setCell (Nat.le_refl _) _
        case rest =>
          obtain ⟨rfl, fb, rfl, rfl, hfb1, hbx, hF2⟩ := hcut
          have hfg : fb ≠ g ∧ fb ≠ a ∧ fb ≠ b ∧ fb ≠ gA := by
            have h1 := hT1.out.low g hsg
            have h2 := hT1.out.low a hsa
            have h3 := hT1.out.low b hsb
            have h4 : gA < w1.heap.size := World.block_lt_of_cell? _ _ hc1
            omega
          have hTc := hT1.out.fresh hF2
          have hFc : Hid (Frm (Own S w) w wc) := hF1.out.trans (hF2.mono (fun k hk => .inr (Nat.le_trans hF1.out.size hk)))
          clear hT1 hF1 hF2 hd0 hd1 hc1 hc2 hn0 hn1 HIW HIM HG
          obtain ⟨hb, hmw, hmn, hA, _, _, _, hlow, _, _, _, hgA, hiw, him, _, _, _, _⟩ := hTc
          have hd0 := hb.cell 0
          have hd3 := hb.cell 3
          have hd4 := hb.cell 4
          have hd5 := hb.cell 5
          have hx0 := hbx.cell 0
          have hx1 := hbx.cell 1
          have hl : g < wc.heap.size := hb.lt
          have hlx : fb < wc.heap.size := hbx.lt
          simp only [List.getElem?_toArray, List.getElem?_cons_zero, List.getElem?_cons_succ, List.length_cons] at hd0 hd3 hd4 hd5 hx0 hx1
          simp only [List.length_cons] at hA hiw him hle
          generalize hfi : n - (r.length + 1) = first at *
          have hfi2 : n - r.length = first + 1 := by omega
          have hlw := fun q : Nat => run_lookup fkey (M := 136) (E := 32) Try.underlying136 (z := .int .u64 0) (by kernel_rfl) (hmw.fresh ((Frm.refl _ _).drewN q)) (f1, f2) false
          have hgw := hiw.2 (f1, f2)
          simp only [lastAt, id] at hgw
          obtain ⟨x, hlk, hx⟩ : ∃ x : Nat, (∀ q : Nat, Sem.run Try.prog (Instr.lookup 136 (.map (some a)) (.agg #[.string ⟨f1.toArray⟩, .string ⟨f2.toArray⟩]) false) (wc.drewN q) = .ok (.int .u64 x) (wc.drewN q)) ∧
              Hid ((x = first ∧ lastAt id (f1, f2) (first + 1) r = none) ∨ (first < x ∧ lastAt id (f1, f2) (first + 1) r = some x)) := by
            cases e : lastAt id (f1, f2) (first + 1) r with
            | none =>
              refine ⟨first, fun q => ?_, .inl ⟨rfl, rfl⟩⟩
              have := hlw q
              rw [hgw, e] at this
              exact this
            | some i =>
              refine ⟨i, fun q => ?_, .inr ⟨(lastAt_range _ _ _ _ _ e).1, rfl⟩⟩
              have := hlw q
              rw [hgw, e] at this
              exact this
          have HB := Lib.hid hb
          have HX := Lib.hid hbx
          have HMW := Lib.hid hmw
          have HMN := Lib.hid hmn
          have HA := Lib.hid hA
          have HG := Lib.hid hgA
          have HIM := Lib.hid him
          have HIW := Lib.hid hiw
          have HF1 := Lib.hid hfi
          have HF2 := Lib.hid hfi2
          have HLW := Lib.hid hlow
          clear hb hbx hmw hmn hA hgA him hiw hfi hfi2 hlow hlw hgw
          go_wp2
          go_quiet (fail)
          go_upto_if 42 with (fail)
          clear hlk
          have hFq : Hid (Frm (· = a) wc (wc.drewN nq)) := (Frm.refl _ _).drewN nq
          have hmq : Hid (MapIs (wc.drewN nq) a fld ew') := HMW.out.fresh ((Frm.refl _ _).drewN nq)
          replace hd4 : (wc.drewN nq).cell? ⟨g, 4, none⟩ = some (.map (some a)) := hd4
          replace hx0 : (wc.drewN nq).cell? ⟨fb, 0, none⟩ = some (.string ⟨f1.toArray⟩) := hx0
          replace hx1 : (wc.drewN nq).cell? ⟨fb, 1, none⟩ = some (.string ⟨f2.toArray⟩) := hx1
          clear hd0 hd3 hd5
          generalize wc.drewN nq = wq at *
          go_cut [5, 6, 7] from 8 to 82 (fun v5 v6 v7 w2 => v5 = .int .i64 k ∧ v6 = .pointer (some ⟨fb, 0, none⟩) ∧ v7 = .int .u64 first ∧ ∃ ew2, Hid (MapIs w2 a fld ew2) ∧ Hid (MapInv id (first + 1) r ew2) ∧ Hid (Frm (· = a) wc w2))
          case first =>
            rcases hx.out with ⟨rfl, hcw⟩ | ⟨hlt, hcw⟩
            · have hiw2 := Lib.hid (HIW.out.gone (x := (f1, f2)) hcw)
              clear hcw hx
              go_wp2
              go_still_tail 5, (by kernel_rfl)
              change wpList _ _ _ _ _ wq.drew
              refine wpList_delete fkey Try.underlying136 rfl rfl rfl (k := (f1, f2)) rfl (hmq.out.fresh ((Frm.refl _ _).drew)) ?_
              intro wd hmd hFd hsd
              replace hFd : Hid (Frm (· = a) wc wd) := hFq.out.drew.trans hFd
              have hmd := Lib.hid hmd
              clear hsd hmq hFq hd4 hx0 hx1
              go_wp2
              go_meet
              exact ⟨rfl, rfl, rfl, _, hmd, hiw2, hFd⟩
            · have hiw2 := Lib.hid (HIW.out.stay (x := (f1, f2)) hcw)
              have hne : ¬ ((x : Int) = first) := by omega
              clear hcw hx
              go_wp2
              go_meet
              exact ⟨rfl, rfl, rfl, _, hmq, hiw2, hFq⟩
          case rest =>
            obtain ⟨rfl, rfl, rfl, ew2, hmd, hiw2, hFd⟩ := hcut
            rename World => wd
            have hb := HB.out.keep hFd.out hga
            have hbx := HX.out.keep hFd.out hfg.2.1
            have hmn := HMN.out.keep hFd.out (fun e => hab e.symm)
            have hA := HA.out.keep hFd.out (fun k hk => (HG.out k hk).2.1)
            have hFd1 : Hid (Frm (Own S w) w wd) := hFc.out.trans (hFd.out.mono (fun k hk => .inl (by rw [hk]; exact hsa)))
            have hFd2 := hFd.out.size
            clear hx hFq hmq hd4 hx0 hx1 hl hlx
            have hd5 := hb.cell 5
            have hx0 := hbx.cell 0
            have hl : g < wd.heap.size := hb.lt
            have hlx : fb < wd.heap.size := hbx.lt
            simp only [List.getElem?_toArray, List.getElem?_cons_zero, List.getElem?_cons_succ] at hd5 hx0
            have hlw := fun q : Nat => run_lookup skey (M := 137) (E := 32) Try.underlying137 (z := .int .u64 0) (by kernel_rfl) (hmn.fresh ((Frm.refl _ _).drewN q)) f1 false
            have hgw := HIM.out.2 f1
            simp only [lastAt] at hgw
            obtain ⟨x, hlk, hx⟩ : ∃ x : Nat, (∀ q : Nat, Sem.run Try.prog (Instr.lookup 137 (.map (some b)) (.string ⟨f1.toArray⟩) false) (wd.drewN q) = .ok (.int .u64 x) (wd.drewN q)) ∧
                Hid ((x = first ∧ lastAt Prod.fst f1 (first + 1) r = none) ∨ (first < x ∧ lastAt Prod.fst f1 (first + 1) r = some x)) := by
              cases e : lastAt Prod.fst f1 (first + 1) r with
              | none =>
                refine ⟨first, fun q => ?_, .inl ⟨rfl, rfl⟩⟩
                have := hlw q
                rw [hgw, e] at this
                exact this
              | some i =>
                refine ⟨i, fun q => ?_, .inr ⟨(lastAt_range _ _ _ _ _ e).1, rfl⟩⟩
                have := hlw q
                rw [hgw, e] at this
                exact this
            have HB2 := Lib.hid hb
            have HX2 := Lib.hid hbx
            have HMN2 := Lib.hid hmn
            have HA2 := Lib.hid hA
            clear hb hbx hmn hA HB HX HMN HA HMW hFc hlw hgw
            go_wp2
            go_quiet (fail)
            go_upto_if 56 with (fail)
            clear hlk
            have hFq : Hid (Frm (· = b) wd (wd.drewN nq)) := (Frm.refl _ _).drewN nq
            have hmq : Hid (MapIs (wd.drewN nq) b str en') := HMN2.out.fresh ((Frm.refl _ _).drewN nq)
            replace hd5 : (wd.drewN nq).cell? ⟨g, 5, none⟩ = some (.map (some b)) := hd5
            replace hx0 : (wd.drewN nq).cell? ⟨fb, 0, none⟩ = some (.string ⟨f1.toArray⟩) := hx0
            generalize wd.drewN nq = wq at *
            go_cut [5, 6, 7] from 8 to 82 (fun v5 v6 v7 w2 => v5 = .int .i64 k ∧ v6 = .pointer (some ⟨fb, 0, none⟩) ∧ v7 = .int .u64 first ∧ ∃ en2, Hid (MapIs w2 b str en2) ∧ Hid (MapInv Prod.fst (first + 1) r en2) ∧ Hid (Frm (· = b) wd w2))
            case first =>
              rcases hx.out with ⟨rfl, hcw⟩ | ⟨hlt, hcw⟩
              · have him2 := Lib.hid (HIM.out.gone (x := (f1, f2)) hcw)
                clear hcw hx
                go_wp2
                go_still_tail 6, (by kernel_rfl)
                change wpList _ _ _ _ _ wq.drew
                refine wpList_delete skey Try.underlying137 rfl rfl rfl (k := f1) rfl (hmq.out.fresh ((Frm.refl _ _).drew)) ?_
                intro we hme hFe hse
                replace hFe : Hid (Frm (· = b) wd we) := hFq.out.drew.trans hFe
                have hme := Lib.hid hme
                clear hse hmq hFq hd5 hx0
                go_wp2
                go_meet
                exact ⟨rfl, rfl, rfl, _, hme, him2, hFe⟩
              · have him2 := Lib.hid (HIM.out.stay (x := (f1, f2)) hcw)
                have hne : ¬ ((x : Int) = first) := by omega
                clear hcw hx
                go_wp2
                go_meet
                exact ⟨rfl, rfl, rfl, _, hmq, him2, hFq⟩
            case rest =>
              obtain ⟨rfl, rfl, rfl, en2, hme, him2, hFe⟩ := hcut
              rename World => we
              have hb := HB2.out.keep hFe.out hgb
              have hbx := HX2.out.keep hFe.out hfg.2.2.1
              have hmw := hmd.out.keep hFe.out hab
              have hA := HA2.out.keep hFe.out (fun k hk => (HG.out k hk).2.2)
              have hFe1 : Hid (Frm (Own S w) w we) := hFd1.out.trans (hFe.out.mono (fun k hk => .inl (by rw [hk]; exact hsb)))
              have hFe2 := hFe.out.size
              clear HB2 HX2 hmd HA2 hFd1 hFe hFd HMN2 HIM hx hFq hmq hd5 hx0 hl hlx HIW
              have hd0 := hb.cell 0
              have hz0 := hb.frozen 0
              have hl : g < we.heap.size := hb.lt
              simp only [List.getElem?_toArray, List.getElem?_cons_zero, List.length_cons] at hd0
              have hcap : r.length + 1 ≤ c' := hA.cap
              have hA2 := hA.tail
              have hA2f : ∀ k, M.blk (if c' = 1 then some (⟨gA, off, none⟩ : Addr) else (some (⟨gA, off, none⟩ : Addr)).map (·.add 2)) = some k → k ≠ g ∧ k ≠ a ∧ k ≠ b := fun k hk => by
                refine HG.out k ?_
                rw [← hk]
                split <;> simp [M.blk, Addr.add]
              have HRT := fun (o : Oper) (a : Act) (x : Operand) => run_tail (P := Try.prog) (o := o) (a := a) (w := we) (t := 30) (e := 71) (x := x) (A := some ⟨gA, off, none⟩) (n := r.length) (c := c') (size := 2)
              generalize (if c' = 1 then some (⟨gA, off, none⟩ : Addr) else (some (⟨gA, off, none⟩ : Addr)).map (·.add 2)) = A2 at *
              have HRT := Lib.hid HRT
              have HB := Lib.hid hb
              have HX := Lib.hid hbx
              have HMW := Lib.hid hmw
              have HA2 := Lib.hid hA2
              have HAF := Lib.hid hA2f
              clear hb hbx hmw hA hA2 hA2f
              go_upto_region 9 with (refine wpList_val rfl (.slice A2 r.length (c' - 1)) (HRT.out _ _ _ rfl rfl hcap Try.underlying30 (by kernel_rfl)) ?_)
              have hb := HB.out.set_ 0 (.slice A2 r.length (c' - 1))
              have hbx := HX.out.far (p := ⟨g, 0, none⟩) hfg.1 (.slice A2 r.length (c' - 1))
              have hFg : Hid (Frm (fun k => k = g ∨ New we k) we (we.setCell ⟨g, 0, none⟩ (.slice A2 r.length (c' - 1)))) := (Frm.refl _ we).setCell (.inl rfl) _
              have hsz3 : (we.setCell ⟨g, 0, none⟩ (.slice A2 r.length (c' - 1))).heap.size = we.heap.size := by simp
              generalize we.setCell ⟨g, 0, none⟩ (.slice A2 r.length (c' - 1)) = wf at *
              clear hd0 hz0 hl HRT
              have hd3 := hb.cell 3
              have hz3 := hb.frozen 3
              have hx0 := hbx.cell 0
              have hx1 := hbx.cell 1
              have hl : g < wf.heap.size := hb.lt
              have hlx : fb < wf.heap.size := hbx.lt
              have hs1 : Hid (fsizes [(f1, f2)] = fsize (f1, f2)) := by show _ = _; simp [fsizes]
              generalize hsf : fsize (f1, f2) = s1 at *
              generalize hsr : fsizes r = sr at *
              have hs2 : fsizes ((f1, f2) :: r) = s1 + sr := by rw [fsizes_cons, hsf, hsr]
              simp only [List.getElem?_toArray, List.getElem?_cons_zero, List.getElem?_cons_succ, List.setIfInBounds_toArray, List.set_cons_zero, hs2] at hd3 hx0 hx1
              have HS := Lib.hid hs2
              have HSR := Lib.hid hsr
              have hsz1o := hsz1.out
              rw [← hsz1o] at hd3
              have hwr : IntKind.i64.wrap ((sz : Int) - (s1 : Int)) = (sr : Int) := by
                rw [show ((sz : Int) - (s1 : Int)) = (sr : Int) from by omega]
                exact IntWalk.i64_in _ (by omega)
              have HSZ := Lib.hid hsz3
              have HB3 := Lib.hid hb
              have HX3 := Lib.hid hbx
              have hsl : s1 ≤ 4611686018427387903 := by omega
              clear hs2 hsr hsf hsz3 hsz1o hb hbx
              go_cut [5, 6, 7] from 8 to 82 (fun v5 v6 v7 w2 => v5 = .int .i64 k ∧ v6 = .pointer (some ⟨fb, 0, none⟩) ∧ v7 = .int .u64 first ∧ ∃ w3, Hid (Frm (New wf) wf w3) ∧ w2 = w3.setCell ⟨g, 3, none⟩ (.int .i64 sr))
              case first =>
                go_region_with (first
                  | (go_at_call 119
                     refine (size_any [(f1, f2)] _ 1 _ (by first | exact Rd.new _ #[.string ⟨f1.toArray⟩, .string ⟨f2.toArray⟩] _ | exact (Rd.new _ #[.string ⟨f1.toArray⟩, .string ⟨f2.toArray⟩] _).drew) (by rw [hs1.out]; exact hsl) (by simp)).mono ?_
                     rintro e w2 ⟨rfl, hFs⟩
                     have hT : Frm (New wf) wf w2 := Frm.then_new (by first | exact ((Frm.refl _ _).drew).alloc Up.new _ | exact ((Frm.refl _ _).alloc Up.new _).drew) Up.new hFs
                     have k1 := (hT.cell (p := ⟨g, 3, none⟩) (fun c => by unfold New at c; simp at c; omega)).trans hd3
                     have k4 := (hT.frozen (p := ⟨g, 3, none⟩) (fun c => by unfold New at c; simp at c; omega)).trans hz3
                     have hT2 := Lib.hid hT
                     clear hT hFs
                     rw [hs1.out])
                  | fail)
                all_goals go_wp2
                all_goals go_meet
                all_goals exact ⟨rfl, rfl, rfl, _, hT2, rfl⟩
              case rest =>
                obtain ⟨rfl, rfl, rfl, w3, hT2, rfl⟩ := hcut
                go_wp2
                go_roundw
                case rel =>
                  have hB4 := (Blk.fresh HB3.out hT2.out).set_ 3 (.int .i64 sr)
                  have hFz : Frm (fun k => k = g ∨ New we k) we (w3.setCell ⟨g, 3, none⟩ (.int .i64 sr)) :=
                    (hFg.out.trans (hT2.out.mono (fun k hk => .inr (by have := HSZ.out; unfold New at hk ⊢; omega)))).setCell (.inl rfl) _
                  have hla := HMW.out.lt
                  have hlb := hme.out.lt
                  have hlS : ∀ k, S k → k < we.heap.size := fun k hk => by have := HLW.out k hk; omega
                  refine ⟨k + 1, r, A2, c' - 1, ew2, en2, by go_num, by omega, hE2.out.symm.trans hE.out, ?_, ?_⟩
                  · refine ⟨?_, HMW.out.keep hFz ?_, hme.out.keep hFz ?_, HA2.out.keep hFz ?_, hsg, hsa, hsb, ?_, hab, hga, hgb, HAF.out, ?_, ?_, by omega, hnb, hcb, ?_⟩
                    · rw [HSR.out]
                      simpa using hB4
                    · rintro (c | c)
                      · exact hga c.symm
                      · unfold New at c; omega
                    · rintro (c | c)
                      · exact hgb c.symm
                      · unfold New at c; omega
                    · intro k hk
                      rintro (c | c)
                      · exact (HAF.out k hk).1 c
                      · have := hlS k (HA2.out.inM k hk)
                        unfold New at c; omega
                    · intro k hk
                      exact Nat.lt_of_lt_of_le (hlS k hk) hFz.size
                    · rw [HF2.out]; exact hiw2.out
                    · rw [HF2.out]; exact him2.out
                    · rw [HSR.out]; omega
                  · refine hFe1.out.trans (hFz.mono ?_)
                    rintro k (c | c)
                    · exact .inl (by rw [c]; exact hsg)
                    · have := hFe1.out.size
                      unfold New at c
                      exact .inr (by omega)
                case measure => simp [intOf]; omega
      · have hE2 : Hid (evict room cap (f :: r) = f :: r) := by show _ = _; rw [evict, hsz, if_neg hq]
        clear hsz
        have hE3 : Hid (evict room cap l = f :: r) := hE.out.symm.trans hE2.out
        go_wp2
        go_quiet (fail)
        go_wp2
        go_ret
        rw [hE3.out]
        refine ⟨?_, _, c', ew', en', hT2.out.drewN _, hF.out.drewN _⟩
        show Ending.returned (.int .i64 (k : Int)) = _
        refine ret_int ?_
        simp; omega
end Go.Proofs.Ytdgggjeiflllhaa.M
namespace Go.Proofs.Ytdgggjeiflllhaa.M
open Go.ChangeShapes Go.WideShapes Go.ChangeAt Go.RowKit
theorem flds : Elem Try.prog 30 71 2 32 :=
  ⟨by kernel_rfl, by
    have h : (Try.prog.info? 71).map (fun i => (i.zero, i.size, i.bytes)) = some (some (.agg #[.string ⟨#[]⟩, .string ⟨#[]⟩]), 2, 32) := by kernel_rfl
    obtain ⟨i, hi, hz, hs, hb⟩ := info_parts h
    exact ⟨i, _, hi, hz, hs, hb, rfl⟩, by omega, by omega⟩
theorem add_step {S : Nat → Prop} {g n cap c1 a b bx c4 : Nat} {l1 : List Fld} {A1 A4 : Option Addr} {ew1 : List (Fld × Value)} {en1 : List (Bytes × Value)} {w3 W w4 : World} {t : TypeId} {cs : Array Value} (hT : TabAt S w3 g l1 n cap A1 c1 a b ew1 en1)
    (hB : Blk w3 bx t cs) (hS : ∀ k, S k → k < bx) (hblk : (blk A4 = blk A1 ∧ c4 = c1) ∨ (blk A4 = some W.heap.size ∧ 0 < 1)) (hWr : Frm (Wr A1 l1.length c1 W) W w4) (hF : Frm (New w3) w3 W) :
    Hid (Blk w4 g 139 #[.slice A1 l1.length c1, .int .u64 n, .int .i64 cap, .int .i64 (fsizes l1 : Nat), .map (some a), .map (some b)]) ∧ Hid (Blk w4 bx t cs) ∧ Hid (MapIs w4 a fld ew1) ∧ Hid (MapIs w4 b str en1) ∧ Hid (∀ k, blk A4 = some k → k ≠ g ∧ k ≠ a ∧ k ≠ b) := by
  have hs := hF.size
  have h1 := hT.mw.lt
  have h2 := hT.mn.lt
  have h3 := hT.blk.lt
  refine ⟨(hT.blk.fresh hF).keep hWr ?_, (hB.fresh hF).keep hWr ?_, (hT.mw.fresh hF).keep hWr ?_, (hT.mn.fresh hF).keep hWr ?_, fun k hk => ?_⟩
  · rintro (c | ⟨_, c⟩)
    · omega
    · exact (hT.gA _ c).1 rfl
  · rintro (c | ⟨_, c⟩)
    · have := hB.lt; omega
    · have := hS _ (hT.app.inM _ c); omega
  · rintro (c | ⟨_, c⟩)
    · omega
    · exact (hT.gA _ c).2.1 rfl
  · rintro (c | ⟨_, c⟩)
    · omega
    · exact (hT.gA _ c).2.2 rfl
  · rcases hblk with ⟨c, _⟩ | ⟨c, _⟩
    · exact hT.gA k (by rw [← c]; exact hk)
    · rw [hk] at c
      injection c with c
      omega
set_option maxRecDepth 100000 in
set_option maxHeartbeats 1000000 in
theorem add_any {S : Nat → Prop} {g n cap c a b : Nat} {l : List Fld} {A : Option Addr} {ew : List (Fld × Value)} {en : List (Bytes × Value)} (x : Fld) (F : Option Addr) (cf : Nat) (w : World)
    (h : TabAt S w g l n cap A c a b ew en) (hR : Rd w F (fvs [x])) (hF : ∀ k, blk F = some k → ¬ S k) (hn : n < 1152921504606846976) (hx : fsize x ≤ 1152921504606846976) (hc46 : cap ≤ 70368744177664) :
    Calls Try.prog 122 #[.pointer (some ⟨g, 0, none⟩), .slice F 1 cf] w fun e w' => (∃ m : Int, e = .returned (.int .i64 m)) ∧
      ∃ S' A' c' ew' en', TabAt S' w' g (Tb.add ⟨l, n, cap⟩ x).l (Tb.add ⟨l, n, cap⟩ x).n cap A' c' a b ew' en' ∧ Frm (Own S w) w w' ∧ ∀ k, S' k → Own S w k := by
  obtain ⟨gF, off, rfl, hx0⟩ := hR.at_ (k := 0) (by rw [fvs_length]; simp)
  clear hx0
  obtain ⟨hc1, hc2⟩ := fld_cells hR 0 (by simp)
  have hl : gF < w.heap.size := World.block_lt_of_cell? _ _ hc1
  simp only [Nat.zero_mul, Nat.add_zero, List.getElem_cons_zero] at hc1 hc2
  obtain ⟨x1, x2⟩ := x
  simp only [str] at hc1 hc2
  have H := Lib.hid h
  have HR := Lib.hid hR
  have HFR := Lib.hid hF
  clear h hR hF
  go_enter Try.func122, Try.ntmps122
  go_wp2
  refine wp_loop_rounds 2 ?_
  rw [rounds_succ]
  go_upto_region 5 with (fail)
  have HB : Blk (w.alloc (Obj.cells #[Value.string { data := List.toArray x1 }, Value.string { data := List.toArray x2 }] 71)) w.heap.size 71 #[Value.string { data := List.toArray x1 }, Value.string { data := List.toArray x2 }] := Blk.new w _ _
  have H0 : Frm (New w) w (w.alloc (Obj.cells #[Value.string { data := List.toArray x1 }, Value.string { data := List.toArray x2 }] 71)) := (Frm.refl _ _).alloc Up.new _
  have H1 := H.out.fresh H0
  have hbS : ∀ k, S k → k < w.heap.size := H.out.low
  clear hc1 hc2 hl H
  generalize w.alloc (Obj.cells #[Value.string { data := List.toArray x1 }, Value.string { data := List.toArray x2 }] 71) = w1 at *
  generalize hb : w.heap.size = bx at *
  have hxa := HB.cell 0
  have hxb := HB.cell 1
  have hb1 : bx < w1.heap.size := HB.lt
  simp only [List.getElem?_toArray, List.getElem?_cons_zero, List.getElem?_cons_succ] at hxa hxb
  have H0 := Lib.hid H0
  have H1 := Lib.hid H1
  have HB := Lib.hid HB
  have HBX := Lib.hid hb
  have HBS := Lib.hid hbS
  clear hb hbS
  have hs1 : Hid (fsizes [(x1, x2)] = fsize (x1, x2)) := by show _ = _; simp [fsizes]
  have HA : Hid (Tb.add ⟨l, n, cap⟩ (x1, x2) = if fsize (x1, x2) ≤ cap then ⟨evict (fsize (x1, x2)) cap l ++ [(x1, x2)], n + 1, cap⟩ else ⟨[], n, cap⟩) := rfl
  generalize hs : fsize (x1, x2) = s1 at *
  have HSX := Lib.hid hs
  clear hs
  have hm := evict_length s1 cap l
  have hlm : l.length ≤ n := H1.out.le
  have hcb : cap ≤ 1152921504606846976 := H1.out.cb
  by_cases hq : s1 ≤ cap
  · go_upto_region 8 with (first
      | (go_at_call 119
         refine (size_any [(x1, x2)] _ 1 _ (by exact Rd.new _ #[.string ⟨x1.toArray⟩, .string ⟨x2.toArray⟩] _) (by rw [hs1.out]; omega) (by simp)).mono ?_
         rintro e w2 ⟨rfl, hFs⟩
         have hT2 : Frm (New w1) w1 w2 := Frm.then_new ((Frm.refl _ _).alloc Up.new _) Up.new hFs
         have H2 := Lib.hid (H1.out.fresh hT2)
         have HB2 := Lib.hid (HB.out.fresh hT2)
         have hT2 := Lib.hid hT2
         clear hFs
         rw [hs1.out])
      | (go_at_call 135
         refine (fit_any s1 _ H2.out (by omega)).mono ?_
         rintro e w3 ⟨rfl, A1, c1, ew1, en1, hT3, hF3⟩
         have hd2 := hT3.blk.cell 2
         have hg3 : g < w3.heap.size := hT3.blk.lt
         simp only [List.getElem?_toArray, List.getElem?_cons_zero, List.getElem?_cons_succ] at hd2
         have HT3 := Lib.hid hT3
         have HF3 := Lib.hid hF3
         clear hT3 hF3
         have hfit := evict_fits s1 cap hq l
         generalize evict s1 cap l = l1 at *
         generalize hgm : l.length - l1.length = m at *
         have hm2 : m ≤ 1152921504606846976 := by omega
         clear hgm hm))
    have hB3 : Blk w3 bx 71 #[Value.string { data := List.toArray x1 }, Value.string { data := List.toArray x2 }] := HB2.out.keep HF3.out (fun c => by
      rcases c with c | c
      · have := HBS.out _ c; omega
      · have := HB2.out.lt; omega)
    have hb3 := HT3.out.blk
    have hd0 := hb3.cell 0
    have hxa := hB3.cell 0
    have hxb := hB3.cell 1
    have hbx3 : bx < w3.heap.size := hB3.lt
    simp only [List.getElem?_toArray, List.getElem?_cons_zero, List.getElem?_cons_succ] at hd0 hxa hxb
    have hA4 : App (Own S w3) w3 71 2 A1 l1.length c1 (fvs l1) := HT3.out.app.mono (fun k hk => .inl hk)
    have hl1 := len_fsizes l1
    have HB3 := Lib.hid hB3
    have hgx : g < bx := HBS.out g HT3.out.sg
    have hax : a < bx := HBS.out a HT3.out.sa
    have hbbx : b < bx := HBS.out b HT3.out.sb
    have HA4 := Lib.hid hA4
    clear hb3 hB3 hA4
    go_cut [11] from 11 to 77 (fun v11 w5 => v11 = .int .i64 0 ∧ ∃ A4 c4 w4, w5 = w4.setCell ⟨g, 0, none⟩ (.slice A4 (l1.length + 1) c4) ∧ Hid (App (Own S w3) w4 71 2 A4 (l1.length + 1) c4 (fvs l1 ++ [str x1, str x2])) ∧ Hid (Frm (Own S w3) w3 w4) ∧
      Hid (Blk w4 g 139 #[.slice A1 l1.length c1, .int .u64 n, .int .i64 cap, .int .i64 (fsizes l1 : Nat), .map (some a), .map (some b)]) ∧ Hid (Blk w4 bx 71 #[.string ⟨x1.toArray⟩, .string ⟨x2.toArray⟩]) ∧ Hid (MapIs w4 a fld ew1) ∧ Hid (MapIs w4 b str en1) ∧ Hid (∀ k, M.blk A4 = some k → k ≠ g ∧ k ≠ a ∧ k ≠ b))
    case first =>
      go_region_law (refine step_append2 (M := Own S w3) (news := [.string ⟨x1.toArray⟩, .string ⟨x2.toArray⟩]) flds rfl rfl rfl (by first | exact (HA4.out.alloc _).drew | exact HA4.out.drew.alloc _) (Up.of (Own.up S w3) (by simp)) rfl (by first | exact (Rd.new _ #[.string ⟨x1.toArray⟩, .string ⟨x2.toArray⟩] _).drew | exact Rd.new _ #[.string ⟨x1.toArray⟩, .string ⟨x2.toArray⟩] _) rfl (fun u hu => by simp at hu; rcases hu with rfl | rfl <;> rfl) (by omega) ?_; intro A4 c4 w4 hApp4 hF4 hblk4 hWr4; have hX := add_step HT3.out HB3.out HBS.out hblk4 hWr4 (by first | exact ((Frm.refl _ _).alloc Up.new _).drew | exact (Frm.refl _ _).drew.alloc Up.new _); have hz4 : w4.frozen? ⟨g, 0, none⟩ = false := hX.1.out.frozen 0; have hg4 : g < w4.heap.size := hX.1.out.lt; have hy4 := hX.1.out.cell 0; have HAPP := Lib.hid hApp4; have HF4 : Hid (Frm (Own S w3) w3 w4) := Frm.trans (by first | exact ((Frm.refl _ _).alloc (Own.up S w3) _).drew | exact (Frm.refl _ _).drew.alloc (Own.up S w3) _) hF4; have HX := Lib.hid hX; clear hApp4 hF4 hblk4 hWr4 hX)
      all_goals go_wp2
      all_goals go_meet
      all_goals exact ⟨rfl, A4, c4, w4, rfl, HAPP, HF4, HX.out.1, HX.out.2.1, HX.out.2.2.1, HX.out.2.2.2.1, HX.out.2.2.2.2⟩
    case rest =>
      obtain ⟨rfl, A4, c4, w4, rfl, HAPP, HF4, hb4, hbx4, hmw4, hmn4, hgA4⟩ := hcut
      replace hb4 := hb4.out
      replace hbx4 := hbx4.out
      replace hmw4 := hmw4.out
      replace hmn4 := hmn4.out
      replace hgA4 := hgA4.out
      have hs5 : (w4.setCell ⟨g, 0, none⟩ (.slice A4 (l1.length + 1) c4)).heap.size = w4.heap.size := by simp
      have hF5 : Frm (fun k => k = g ∨ k = a ∨ k = b) w4 (w4.setCell ⟨g, 0, none⟩ (.slice A4 (l1.length + 1) c4)) := (Frm.refl _ w4).setCell (.inl rfl) _
      have hb5 := hb4.set_ 0 (.slice A4 (l1.length + 1) c4)
      have hbx5 := hbx4.far (p := ⟨g, 0, none⟩) (by simp; omega) (.slice A4 (l1.length + 1) c4)
      have hmw5 := hmw4.keep ((Frm.refl (fun k => k = g) w4).setCell (p := ⟨g, 0, none⟩) rfl (.slice A4 (l1.length + 1) c4)) (fun c => HT3.out.ga c.symm)
      have hmn5 := hmn4.keep ((Frm.refl (fun k => k = g) w4).setCell (p := ⟨g, 0, none⟩) rfl (.slice A4 (l1.length + 1) c4)) (fun c => HT3.out.gb c.symm)
      clear hb4 hbx4 hmw4 hmn4 hd0 hxa hxb hbx3 hd2
      generalize w4.setCell ⟨g, 0, none⟩ (.slice A4 (l1.length + 1) c4) = w5 at *
      have hd3 := hb5.cell 3
      have hz3 := hb5.frozen 3
      have hg5 : g < w5.heap.size := hb5.lt
      generalize hz1 : fsizes l1 = z1 at *
      simp only [List.getElem?_toArray, List.getElem?_cons_zero, List.getElem?_cons_succ, List.setIfInBounds_toArray, List.set_cons_zero] at hd3
      have HZ1 := Lib.hid hz1
      have HB5 := Lib.hid hb5
      have HX5 := Lib.hid hbx5
      have HMW5 := Lib.hid hmw5
      have HMN5 := Lib.hid hmn5
      have HF5 := Lib.hid hF5
      have HGA := Lib.hid hgA4
      have HS5 := Lib.hid hs5
      clear hz1 hb5 hbx5 hmw5 hmn5 hF5 hgA4 hs5
      go_upto_region 10 with (fail)
      have hb6 := HB5.out.set_ 3 (.int .i64 ((z1 : Int) + s1))
      have hbx6 := HX5.out.far (p := ⟨g, 3, none⟩) (by simp; omega) (.int .i64 ((z1 : Int) + s1))
      have hmw6 := HMW5.out.keep ((Frm.refl (fun k => k = g) w5).setCell (p := ⟨g, 3, none⟩) rfl (.int .i64 ((z1 : Int) + s1))) (fun c => HT3.out.ga c.symm)
      have hmn6 := HMN5.out.keep ((Frm.refl (fun k => k = g) w5).setCell (p := ⟨g, 3, none⟩) rfl (.int .i64 ((z1 : Int) + s1))) (fun c => HT3.out.gb c.symm)
      have hF6 : Frm (fun k => k = g ∨ k = a ∨ k = b) w4 (w5.setCell ⟨g, 3, none⟩ (.int .i64 ((z1 : Int) + s1))) := HF5.out.setCell (.inl rfl) _
      clear hd3 hz3 hg5
      generalize w5.setCell ⟨g, 3, none⟩ (.int .i64 ((z1 : Int) + s1)) = w6 at *
      have hd1 := hb6.cell 1
      have hd4 := hb6.cell 4
      have hd5 := hb6.cell 5
      have hxa := hbx6.cell 0
      have hxb := hbx6.cell 1
      have hg6 : g < w6.heap.size := hb6.lt
      have hbx7 : bx < w6.heap.size := hbx6.lt
      simp only [List.getElem?_toArray, List.getElem?_cons_zero, List.getElem?_cons_succ, List.setIfInBounds_toArray, List.set_cons_zero, List.set_cons_succ] at hd1 hd4 hd5 hxa hxb
      have HB6 := Lib.hid hb6
      have HMW6 := Lib.hid (hmw6.fresh ((Frm.refl _ _).drew))
      have HMN6 := Lib.hid (hmn6.fresh ((Frm.refl _ _).drew))
      have HF6 := Lib.hid hF6
      have hga := HT3.out.ga
      have hgb := HT3.out.gb
      have hab := HT3.out.ab
      obtain ⟨v7, st7, w7, hr7, hm7, hF7, hs7⟩ := run_entry (P := Try.prog) fkey (M := 136) (E := 32) Try.underlying136 (z := .int .u64 0) (by kernel_rfl) HMW6.out (x1, x2)
      obtain ⟨w8, hr8, hm8, hF8, hs8⟩ := run_entryStore (P := Try.prog) 136 hm7 (.int .u64 n)
      obtain ⟨v9, st9, w9, hr9, hm9, hF9, hs9⟩ := run_entry (P := Try.prog) skey (M := 137) (E := 32) Try.underlying137 (z := .int .u64 0) (by kernel_rfl) ((HMN6.out.keep hF7 hab.symm).keep hF8 hab.symm) x1
      obtain ⟨w10, hr10, hm10, hF10, hs10⟩ := run_entryStore (P := Try.prog) 137 hm9 (.int .u64 n)
      simp only [fld, str, goInt] at hr7 hr8 hr9 hr10
      have hX : ∀ p : Addr, p.block ≠ a → p.block ≠ b → w7.cell? p = w6.cell? p ∧ w8.cell? p = w6.cell? p ∧ w9.cell? p = w6.cell? p ∧ w10.cell? p = w6.cell? p := fun p h1 h2 => by
        have e7 : w7.cell? p = w6.cell? p := hF7.cell h1
        have e8 : w8.cell? p = w6.cell? p := (hF8.cell h1).trans e7
        have e9 : w9.cell? p = w6.cell? p := (hF9.cell h2).trans e8
        exact ⟨e7, e8, e9, (hF10.cell h2).trans e9⟩
      have hXg := fun i : Nat => hX ⟨g, i, none⟩ hga hgb
      have hXb := fun i : Nat => hX ⟨bx, i, none⟩ (by simp; omega) (by simp; omega)
      have hS7 : w7.cell? ⟨g, 1, none⟩ = some (.int .u64 n) ∧ w7.cell? ⟨g, 4, none⟩ = some (.map (some a)) ∧ w7.cell? ⟨g, 5, none⟩ = some (.map (some b)) ∧ w7.cell? ⟨bx, 0, none⟩ = some (.string ⟨x1.toArray⟩) ∧ w7.cell? ⟨bx, 1, none⟩ = some (.string ⟨x2.toArray⟩) :=
        ⟨(hXg 1).1.trans hd1, (hXg 4).1.trans hd4, (hXg 5).1.trans hd5, (hXb 0).1.trans hxa, (hXb 1).1.trans hxb⟩
      have hS8 : w8.cell? ⟨g, 1, none⟩ = some (.int .u64 n) ∧ w8.cell? ⟨g, 4, none⟩ = some (.map (some a)) ∧ w8.cell? ⟨g, 5, none⟩ = some (.map (some b)) ∧ w8.cell? ⟨bx, 0, none⟩ = some (.string ⟨x1.toArray⟩) ∧ w8.cell? ⟨bx, 1, none⟩ = some (.string ⟨x2.toArray⟩) :=
        ⟨(hXg 1).2.1.trans hd1, (hXg 4).2.1.trans hd4, (hXg 5).2.1.trans hd5, (hXb 0).2.1.trans hxa, (hXb 1).2.1.trans hxb⟩
      have hS9 : w9.cell? ⟨g, 1, none⟩ = some (.int .u64 n) ∧ w9.cell? ⟨g, 4, none⟩ = some (.map (some a)) ∧ w9.cell? ⟨g, 5, none⟩ = some (.map (some b)) ∧ w9.cell? ⟨bx, 0, none⟩ = some (.string ⟨x1.toArray⟩) ∧ w9.cell? ⟨bx, 1, none⟩ = some (.string ⟨x2.toArray⟩) :=
        ⟨(hXg 1).2.2.1.trans hd1, (hXg 4).2.2.1.trans hd4, (hXg 5).2.2.1.trans hd5, (hXb 0).2.2.1.trans hxa, (hXb 1).2.2.1.trans hxb⟩
      have hS10 : w10.cell? ⟨g, 1, none⟩ = some (.int .u64 n) ∧ w10.cell? ⟨g, 4, none⟩ = some (.map (some a)) ∧ w10.cell? ⟨g, 5, none⟩ = some (.map (some b)) ∧ w10.cell? ⟨bx, 0, none⟩ = some (.string ⟨x1.toArray⟩) ∧ w10.cell? ⟨bx, 1, none⟩ = some (.string ⟨x2.toArray⟩) :=
        ⟨(hXg 1).2.2.2.trans hd1, (hXg 4).2.2.2.trans hd4, (hXg 5).2.2.2.trans hd5, (hXb 0).2.2.2.trans hxa, (hXb 1).2.2.2.trans hxb⟩
      have HS7 := Lib.hid hS7
      have HS8 := Lib.hid hS8
      have HS9 := Lib.hid hS9
      have HS10 := Lib.hid hS10
      have hm8 := Lib.hid hm8
      have hm10 := Lib.hid hm10
      have hF7 := Lib.hid hF7
      have hF8 := Lib.hid hF8
      have hF9 := Lib.hid hF9
      have hF10 := Lib.hid hF10
      clear hm7 hm9 hs7 hs8 hs9 hs10 hX hXg hXb hS7 hS8 hS9 hS10
      go_region_held3 (fun w' => w'.cell? ⟨g, 1, none⟩ = some (.int .u64 n) ∧ w'.cell? ⟨g, 4, none⟩ = some (.map (some a)) ∧ w'.cell? ⟨g, 5, none⟩ = some (.map (some b)) ∧ w'.cell? ⟨bx, 0, none⟩ = some (.string ⟨x1.toArray⟩) ∧ w'.cell? ⟨bx, 1, none⟩ = some (.string ⟨x2.toArray⟩))
        (first | exact HS7.out | exact HS8.out | exact HS9.out | exact HS10.out | exact ⟨hd1, hd4, hd5, hxa, hxb⟩) (fail)
      go_upto_region 11 with (fail)
      replace hF7 := hF7.out
      replace hF8 := hF8.out
      replace hF9 := hF9.out
      replace hF10 := hF10.out
      replace hm8 := hm8.out
      replace hm10 := hm10.out
      clear hr7 hr8 hr9 hr10
      replace hm8 : MapIs w8 a fld (putE (x1, x2) (.int .u64 n) ew1) := hm8
      replace hm10 : MapIs w10 b str (putE x1 (.int .u64 n) en1) := hm10
      have hb10 := (((HB6.out.drew.keep hF7 hga).keep hF8 hga).keep hF9 hgb).keep hF10 hgb
      have hmw10 := Lib.hid ((hm8.keep hF9 hab).keep hF10 hab)
      have hmn10 := Lib.hid hm10
      have hF10' : Hid (Frm (fun k => k = g ∨ k = a ∨ k = b) w4 w10) := (((HF6.out.drew.trans (hF7.mono (fun k hk => .inr (.inl hk)))).trans (hF8.mono (fun k hk => .inr (.inl hk)))).trans (hF9.mono (fun k hk => .inr (.inr hk)))).trans (hF10.mono (fun k hk => .inr (.inr hk)))
      have hd1 := hb10.cell 1
      have hz1 := hb10.frozen 1
      have hg10 : g < w10.heap.size := hb10.lt
      simp only [List.getElem?_toArray, List.getElem?_cons_zero, List.getElem?_cons_succ, List.setIfInBounds_toArray, List.set_cons_zero, List.set_cons_succ] at hd1
      have HB10 := Lib.hid hb10
      have hnn : (n : Int) ≤ 1152921504606846976 := by omega
      clear hb10 hm8 hm10 hF7 hF8 hF9 hF10 hg6 hbx7 hd4 hd5 hxa hxb HMW6 HMN6 hga hgb hab
      go_wp2
      rw [rounds_succ]
      go_wp2
      go_ret
      have hb11 := HB10.out.set_ 1 (.int .u64 ((n : Int) + 1))
      have hF11 : Frm (fun k => k = g ∨ k = a ∨ k = b) w4 (w10.setCell ⟨g, 1, none⟩ (.int .u64 ((n : Int) + 1))) := hF10'.out.setCell (.inl rfl) _
      have hmw11 := hmw10.out.keep ((Frm.refl (fun k => k = g) w10).setCell (p := ⟨g, 1, none⟩) rfl (.int .u64 ((n : Int) + 1))) (fun c => HT3.out.ga c.symm)
      have hmn11 := hmn10.out.keep ((Frm.refl (fun k => k = g) w10).setCell (p := ⟨g, 1, none⟩) rfl (.int .u64 ((n : Int) + 1))) (fun c => HT3.out.gb c.symm)
      generalize w10.setCell ⟨g, 1, none⟩ (.int .u64 ((n : Int) + 1)) = w11 at *
      have s01 := H0.out.size
      have s12 := hT2.out.size
      have s23 := HF3.out.size
      have s34 : w3.heap.size ≤ w4.heap.size := HF4.out.size
      have s411 := hF11.size
      have hS := HBS.out
      have hwx := HBX.out
      have hall : Frm (Own S w) w w11 := by
        refine ((((H0.out.mono (fun k hk => .inr hk)).trans (hT2.out.mono (fun k hk => .inr (Nat.le_trans s01 hk)))).trans (HF3.out.mono (fun k hk => ?_))).trans (HF4.out.mono (fun k hk => ?_))).trans (hF11.mono (fun k hk => ?_))
        · rcases hk with hk | hk
          · exact .inl hk
          · exact .inr (by omega)
        · rcases hk with hk | hk
          · exact .inl hk
          · exact .inr (by omega)
        · rcases hk with rfl | rfl | rfl
          · exact .inl HT3.out.sg
          · exact .inl HT3.out.sa
          · exact .inl HT3.out.sb
      refine ⟨⟨_, rfl⟩, fun k => Own S w k ∧ k < w11.heap.size, A4, c4, putE (x1, x2) (.int .u64 n) ew1, putE x1 (.int .u64 n) en1, ?_, hall, fun k hk => hk.1⟩
      rw [HA.out, if_pos hq]
      have hle : l1.length ≤ n := HT3.out.le
      have hfs : fsizes (l1 ++ [(x1, x2)]) = z1 + s1 := by rw [fsizes_snoc, HZ1.out, HSX.out]
      have hns : (l1 ++ [(x1, x2)]).length = l1.length + 1 := by simp
      have hfi : n + 1 - (l1.length + 1) = n - l1.length := by omega
      have hsn : n - l1.length + l1.length = n := by omega
      refine ⟨?_, hmw11, hmn11, ?_, ?_, ?_, ?_, fun k hk => hk.2, HT3.out.ab, HT3.out.ga, HT3.out.gb, HGA.out, ?_, ?_, ?_, ?_, HT3.out.cb, ?_⟩
      · simp only [hfs, hns]
        simpa using hb11
      · have h1 := HAPP.out
        have h2 := App.here h1 (by simp)
        have h3 := h2.keep hF11 (fun k hk c => by
          have := HGA.out k hk
          omega)
        simp only [hns]
        rw [fvs_append]
        refine App.mono h3 ?_
        rintro k ⟨hk1, hk2⟩
        refine ⟨?_, Nat.lt_of_lt_of_le hk2 s411⟩
        rcases hk1 with c | c
        · exact .inl c
        · exact .inr (Nat.le_trans (Nat.le_trans s01 (Nat.le_trans s12 s23)) c)
      · exact ⟨.inl HT3.out.sg, by omega⟩
      · exact ⟨.inl HT3.out.sa, by omega⟩
      · exact ⟨.inl HT3.out.sb, by omega⟩
      · rw [hns, hfi]
        have := HT3.out.iw.snoc (x1, x2)
        rw [hsn] at this
        exact this
      · rw [hns, hfi]
        have := HT3.out.im.snoc (x1, x2)
        rw [hsn] at this
        exact this
      · show (l1 ++ [(x1, x2)]).length ≤ n + 1
        rw [hns]; omega
      · show n + 1 ≤ _
        omega
      · show fsizes (l1 ++ [(x1, x2)]) ≤ _
        rw [hfs]; omega
  · go_wp2_with (first
      | (go_at_call 119
         refine (size_any [(x1, x2)] _ 1 _ (by exact Rd.new _ #[.string ⟨x1.toArray⟩, .string ⟨x2.toArray⟩] _) (by rw [hs1.out]; omega) (by simp)).mono ?_
         rintro e w2 ⟨rfl, hFs⟩
         have hT2 : Frm (New w1) w1 w2 := Frm.then_new ((Frm.refl _ _).alloc Up.new _) Up.new hFs
         have H2 := Lib.hid (H1.out.fresh hT2)
         have hT2 := Lib.hid hT2
         clear hFs
         rw [hs1.out])
      | (go_at_call 135
         refine (fit_any s1 _ H2.out (by omega)).mono ?_
         rintro e w3 ⟨rfl, A1, c1, ew1, en1, hT3, hF3⟩
         have hd2 := hT3.blk.cell 2
         have hg3 : g < w3.heap.size := hT3.blk.lt
         simp only [List.getElem?_toArray, List.getElem?_cons_zero, List.getElem?_cons_succ] at hd2
         have HT3 := Lib.hid hT3
         have HF3 := Lib.hid hF3
         clear hT3 hF3
         have hev := Lib.hid (evict_all s1 cap (by omega) l)
         generalize evict s1 cap l = l1 at *
         generalize hgm : l.length - l1.length = m at *
         have hm2 : m ≤ 1152921504606846976 := by omega
         clear hgm hm))
    rw [rounds_succ]
    go_wp2
    go_ret
    have s01 := H0.out.size
    have s12 := hT2.out.size
    refine ⟨⟨_, rfl⟩, S, A1, c1, ew1, en1, ?_, ?_, fun k hk => .inl hk⟩
    · rw [HA.out, if_neg hq]
      have := HT3.out
      rw [hev.out] at this
      exact this
    · refine ((H0.out.mono (fun k hk => .inr hk)).trans (hT2.out.mono (fun k hk => .inr (Nat.le_trans s01 hk)))).trans (HF3.out.mono (fun k hk => ?_))
      rcases hk with hk | hk
      · exact .inl hk
      · exact .inr (by omega)
end Go.Proofs.Ytdgggjeiflllhaa.M

