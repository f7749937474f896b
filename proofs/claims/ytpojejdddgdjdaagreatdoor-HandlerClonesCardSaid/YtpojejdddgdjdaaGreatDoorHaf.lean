/- keyed: what the handler answers for a key, and the store that it leaves. Bodies below 2^40. -/
import Derived.BigQuiet
import Derived.Deep.CutBlock
import Derived.Lib.Hide
import Derived.IntWalk
import Derived.WideLaws
import Derived.Test.YtpojejdddgdjdaaGreatDoorHae
import Derived.Test.YtpojejdddgdjdaaGreatDoorReg
namespace Go.Proofs.YtpojejdddgdjdaaGreatDoor.M
open Go.ChangeShapes Go.WideShapes Go.ChangeAt Go.RowKit
theorem mem_put {κ α : Type} [DecidableEq κ] {k : κ} {v : α} {l : List (κ × α)} {x : κ × α} (h : x ∈ putE k v l) : x = (k, v) ∨ x ∈ l := by
  induction l with
  | nil => exact .inl (by simpa [putE] using h)
  | cons p r ih =>
    obtain ⟨a, c⟩ := p
    by_cases hk : k = a
    · subst hk
      simp only [putE, if_true, List.mem_cons] at h
      rcases h with h | h
      · exact .inl h
      · exact .inr (List.mem_cons_of_mem _ h)
    · simp only [putE, if_neg hk, List.mem_cons] at h
      rcases h with h | h
      · exact .inr (by rw [h]; exact List.mem_cons_self)
      · rcases ih h with h | h
        · exact .inl h
        · exact .inr (List.mem_cons_of_mem _ h)
theorem mem_del {κ α : Type} [DecidableEq κ] {k : κ} {l : List (κ × α)} {x : κ × α} (h : x ∈ delE k l) : x ∈ l := by
  induction l with
  | nil => exact h
  | cons p r ih =>
    obtain ⟨a, c⟩ := p
    by_cases hk : k = a
    · simp only [delE, if_pos hk] at h
      exact List.mem_cons_of_mem _ h
    · simp only [delE, if_neg hk, List.mem_cons] at h
      rcases h with h | h
      · rw [h]; exact List.mem_cons_self
      · exact List.mem_cons_of_mem _ (ih h)
theorem len_del {κ α : Type} [DecidableEq κ] (k : κ) (l : List (κ × α)) : (delE k l).length ≤ l.length := by
  induction l with
  | nil => exact Nat.le_refl _
  | cons p r ih =>
    obtain ⟨a, c⟩ := p
    by_cases hk : k = a <;> simp [delE, hk] <;> omega
theorem len_put {κ α : Type} [DecidableEq κ] (k : κ) (v : α) (l : List (κ × α)) : (putE k v l).length = if (getE k l).isSome then l.length else l.length + 1 := by
  induction l with
  | nil => rfl
  | cons p r ih =>
    obtain ⟨a, c⟩ := p
    rw [getE_cons]
    by_cases hk : k = a
    · simp [putE, hk]
    · simp only [putE, if_neg hk, List.length_cons, ih]
      split <;> omega
/-- a value of the store -/
structure SV where
  A : Option Addr
  c : Nat
  b : Bytes
def SV.v (s : SV) : Value := .slice s.A s.b.length s.c
def entsV (L : List (Bytes × SV)) : List (Bytes × Value) := L.map fun x => (x.1, x.2.v)
def sto (L : List (Bytes × SV)) : Sto := L.map fun x => (x.1, x.2.b)
structure KAt (w : World) (p b : Nat) (L : List (Bytes × SV)) : Prop where
  blk : Blk w p 60 #[.map (some b)]
  map : MapIs w b str (entsV L)
  val : ∀ x ∈ L, Rd w x.2.A (bvs x.2.b)
  nd : (L.map (·.1)).Nodup
  len : L.length ≤ 64
  small : ∀ x ∈ L, x.2.b.length ≤ 1099511627776
  klen : ∀ x ∈ L, x.1.length ≤ 32
theorem KAt.ne {w : World} {p b : Nat} {L : List (Bytes × SV)} (h : KAt w p b L) : p ≠ b := fun e => by
  obtain ⟨es, clock, hb, _⟩ := h.map
  have h1 := h.blk
  unfold Blk at h1
  rw [e, hb] at h1
  cases h1
theorem KAt.farb {w : World} {p b : Nat} {L : List (Bytes × SV)} (h : KAt w p b L) : ∀ x ∈ L, bvs x.2.b ≠ [] → ∀ k, M.blk x.2.A = some k → k ≠ b := fun x hx hn k hk e => by
  obtain ⟨es, clock, hb, _⟩ := h.map
  obtain ⟨u, r, hur⟩ : ∃ u r, bvs x.2.b = u :: r := by
    cases hq : bvs x.2.b with
    | nil => exact absurd hq hn
    | cons u r => exact ⟨u, r, rfl⟩
  obtain ⟨g, off, hA, hc⟩ := h.val x hx 0 u (by rw [hur]; rfl)
  rw [hA] at hk
  have e2 : g = k := by simpa using hk
  unfold World.cell? at hc
  simp only [e2, e] at hc
  rw [hb] at hc
  simp at hc
theorem KAt.keep {M : Nat → Prop} {w w' : World} {p b : Nat} {L : List (Bytes × SV)} (h : KAt w p b L) (f : Frm M w w') (hp : ¬ M p) (hb : ¬ M b) (hv : ∀ x ∈ L, bvs x.2.b ≠ [] → Far M x.2.A) : KAt w' p b L :=
  ⟨h.blk.keep f hp, h.map.keep f hb, fun x hx => (h.val x hx).keep2 f (hv x hx), h.nd, h.len, h.small, h.klen⟩
theorem KAt.fresh {w w' : World} {p b : Nat} {L : List (Bytes × SV)} (h : KAt w p b L) (f : Frm (New w) w w') : KAt w' p b L :=
  h.keep f (by have := h.blk.lt; unfold New; omega) (by have := h.map.lt; unfold New; omega) (fun x hx hn k hk e => by have := (h.val x hx).blk_lt hn hk; unfold New at e; omega)
/-- the store with one more -/
theorem KAt.put {w w' : World} {p b : Nat} {L : List (Bytes × SV)} (h : KAt w p b L) (k : Bytes) (s : SV) (hM : MapIs w' b str (putE k s.v (entsV L))) (f : Frm (· = b) w w') (hs : Rd w s.A (bvs s.b)) (hsf : bvs s.b ≠ [] → ∀ z, M.blk s.A = some z → z ≠ b)
    (hl : s.b.length ≤ 1099511627776) (hn : (getE k (sto L)).isSome = true ∨ L.length < 64) (hk32 : k.length ≤ 32) : KAt w' p b (putE k s L) := by
  refine ⟨h.blk.keep f h.ne, ?_, fun x hx => ?_, nodup_put k s L h.nd, ?_, fun x hx => ?_, fun x hx => by rcases mem_put hx with rfl | hx; exact hk32; exact h.klen x hx⟩
  · have e := putE_map (fun x : SV => x.v) k s L
    unfold entsV at hM ⊢
    rw [← e]
    exact hM
  · rcases mem_put hx with rfl | hx
    · exact hs.keep2 f (fun hn z hz e => hsf hn z hz e)
    · exact (h.val x hx).keep2 f (fun hn z hz e => h.farb x hx hn z hz e)
  · rw [len_put]
    have e : getE k (sto L) = (getE k L).map (fun x => x.b) := getE_map (fun x : SV => x.b) k L
    rw [e, Option.isSome_map] at hn
    have := h.len
    split <;> rename_i hc
    · exact h.len
    · rcases hn with hn | hn
      · exact absurd hn hc
      · omega
  · rcases mem_put hx with rfl | hx
    · exact hl
    · exact h.small x hx
theorem KAt.del {w w' : World} {p b : Nat} {L : List (Bytes × SV)} (h : KAt w p b L) (k : Bytes) (hM : MapIs w' b str (delE k (entsV L))) (f : Frm (· = b) w w') : KAt w' p b (delE k L) := by
  refine ⟨h.blk.keep f h.ne, ?_, fun x hx => ?_, nodup_del k L h.nd, Nat.le_trans (len_del k L) h.len, fun x hx => h.small x (mem_del hx), fun x hx => h.klen x (mem_del hx)⟩
  · have e := delE_map (fun x : SV => x.v) k L
    unfold entsV at hM ⊢
    rw [← e]
    exact hM
  · exact (h.val x (mem_del hx)).keep2 f (fun hn z hz e => h.farb x (mem_del hx) hn z hz e)
/-- an answer, of blocks of the call's own; the store's map may have turned -/
structure AnB (bk : Nat) (w0 w : World) (m : MV) (a : An) : Prop where
  min : MIn w m
  fs : m.fs = a.fs
  b : m.b = a.b
  ts : m.ts = a.ts
  n1 : fvs m.fs ≠ [] → ∀ k, blk m.A1 = some k → w0.heap.size ≤ k
  n2 : bvs m.b ≠ [] → ∀ k, blk m.A2 = some k → w0.heap.size ≤ k
  n3 : fvs m.ts ≠ [] → ∀ k, blk m.A3 = some k → w0.heap.size ≤ k
  frm : Frm (fun z => z = bk ∨ New w0 z) w0 w
theorem AnM.toB {b : Nat} {w w1 w2 : World} {m : MV} {a : An} (h : AnM w1 w2 m a) (f : Frm (fun z => z = b ∨ New w z) w w1) : AnB b w w2 m a := by
  have hs := f.size
  exact ⟨h.min, h.fs, h.b, h.ts, fun hn k hk => Nat.le_trans hs (h.n1 hn k hk), fun hn k hk => Nat.le_trans hs (h.n2 hn k hk), fun hn k hk => Nat.le_trans hs (h.n3 hn k hk), f.trans (h.frm.mono (fun k hk => .inr (by unfold New at hk ⊢; omega)))⟩
theorem AnM.doneB {b : Nat} {w w1 w2 w3 : World} {m : MV} {a : An} {g : Nat} (h : AnM w1 w2 m a) (f : Frm (fun z => z = b ∨ New w z) w w1) (hg : w.heap.size ≤ g) (hl : g < w1.heap.size) (F : Frm (· = g) w2 w3) : AnB b w w3 m a := by
  have hs := f.size
  refine ⟨⟨h.min.r1.keep2 F (fun hn k hk e => ?_), h.min.r2.keep2 F (fun hn k hk e => ?_), h.min.r3.keep2 F (fun hn k hk e => ?_)⟩, h.fs, h.b, h.ts, fun hn k hk => ?_, fun hn k hk => ?_, fun hn k hk => ?_, (f.trans (h.frm.mono (fun k hk => .inr (by unfold New at hk ⊢; omega)))).trans (F.mono (fun k hk => by subst hk; exact .inr hg))⟩
  · have := h.n1 hn k hk; have e2 : k = g := e; omega
  · have := h.n2 hn k hk; have e2 : k = g := e; omega
  · have := h.n3 hn k hk; have e2 : k = g := e; omega
  · have := h.n1 hn k hk; omega
  · have := h.n2 hn k hk; omega
  · have := h.n3 hn k hk; omega
/-- each value of the store is an old one, or in a new block -/
def Olds (w : World) (L L' : List (Bytes × SV)) : Prop := ∀ x ∈ L', bvs x.2.b ≠ [] → ∀ z, blk x.2.A = some z → x ∈ L ∨ w.heap.size ≤ z
def KeyedR (w : World) (p b : Nat) (L : List (Bytes × SV)) (res : An × Sto) (e : Ending) (w' : World) : Prop := ∃ (m : MV) (L' : List (Bytes × SV)), e = .returned (.agg m.cells) ∧ AnB b w w' m res.1 ∧ KAt w' p b L' ∧ sto L' = res.2 ∧ Olds w L L'
theorem keyed_done {w w1 w2 w3 : World} {p b g : Nat} {L L' : List (Bytes × SV)} {m : MV} {a : An} (hK : KAt w p b L) (h : AnB b w1 w2 m a) (hK2 : KAt w2 p b L') (hn : Olds w1 L L') (f : Frm (New w) w w1) (hg : w.heap.size ≤ g) (hl : g < w1.heap.size) (F : Frm (· = g) w2 w3) :
    AnB b w w3 m a ∧ KAt w3 p b L' ∧ Olds w L L' := by
  have hs := f.size
  have hp := hK.blk.lt
  have hb := hK.map.lt
  refine ⟨⟨⟨h.min.r1.keep2 F (fun hn k hk e => ?_), h.min.r2.keep2 F (fun hn k hk e => ?_), h.min.r3.keep2 F (fun hn k hk e => ?_)⟩, h.fs, h.b, h.ts, fun hn k hk => ?_, fun hn k hk => ?_, fun hn k hk => ?_, ?_⟩, hK2.keep F (fun e => ?_) (fun e => ?_) (fun x hx hne z hz e => ?_), fun x hx hne z hz => ?_⟩
  · have := h.n1 hn k hk; have e2 : k = g := e; omega
  · have := h.n2 hn k hk; have e2 : k = g := e; omega
  · have := h.n3 hn k hk; have e2 : k = g := e; omega
  · have := h.n1 hn k hk; omega
  · have := h.n2 hn k hk; omega
  · have := h.n3 hn k hk; omega
  · exact ((f.mono (fun k hk => .inr hk)).trans (h.frm.mono (fun k hk => by rcases hk with hk | hk; exact .inl hk; exact .inr (by unfold New at hk ⊢; omega)))).trans (F.mono (fun k hk => by subst hk; exact .inr hg))
  · have e2 : p = g := e; omega
  · have e2 : b = g := e; omega
  · have e2 : z = g := e
    rcases hn x hx hne z hz with h1 | h1
    · have := (hK.val x h1).blk_lt hne hz; omega
    · omega
  · rcases hn x hx hne z hz with h1 | h1
    · exact .inl h1
    · exact .inr (by omega)
theorem KeyedR.same {w w8 : World} {p b : Nat} {L : List (Bytes × SV)} {m : MV} {a : An} {res : An × Sto} (hK : KAt w p b L) (h : AnM w w8 m a) (e : res = (a, sto L)) : KeyedR w p b L res (.returned (.agg m.cells)) w8 := by
  subst e
  exact ⟨m, L, rfl, h.toB (Frm.refl _ w), hK.fresh h.frm, rfl, fun x hx _ _ _ => .inl hx⟩
theorem uMp : Tryz.prog.underlying 58 = some (.map 9 28) := Tryz.underlying58
theorem zBy : (Tryz.prog.info? 28).map (·.zero) = some (some (.slice none 0 0)) := by kernel_rfl
theorem run_maplen {w : World} {b : Nat} {ents : List (Bytes × Value)} (h : MapIs w b str ents) : (Builtin.len_ #[58] 3 #[.map (some b)]).run Tryz.prog w = .ok (.int .i64 (ents.length : Int)) w := by
  obtain ⟨es, ck, hb, _, he⟩ := h
  have hMk : Tryz.prog.underlying 58 = some (.map (Tryz.prog.mapKeyOf 58) (Tryz.prog.mapElemOf 58)) := by kernel_rfl
  have hr := run_len_map w 58 3 b es ck hMk hb
  have hl : es.size = ents.length := by
    have := congrArg List.length he
    simpa using this
  rw [hr, hl]
  rfl
theorem PT.keepb {w w' : World} {b : Nat} {ents : List (Bytes × Value)} (h : PT w) (f : Frm (fun z => z = b ∨ New w z) w w') (_hb : b < w.heap.size) (hM : MapIs w b str ents) : PT w' := by
  obtain ⟨es, ck, hm, _⟩ := hM
  unfold PT Lib.TabIs World.var? at *
  cases hg : Tryz.prog.globalNamed "internal/strconv.uint64pow10" with
  | none => rw [hg] at h; simp at h
  | some g =>
    rw [hg] at h
    simp only [Option.bind_some] at h ⊢
    have hlt : g < w.heap.size := by
      rcases Nat.lt_or_ge g w.heap.size with h' | h'
      · exact h'
      · rw [Array.getElem?_eq_none h'] at h; simp at h
    have hgb : g ≠ b := fun e => by rw [e, hm] at h; simp at h
    rw [f.block g (by unfold New; omega)]
    exact h
theorem idx_lt_ {κ α : Type} [DecidableEq κ] (k : κ) (l : List (κ × α)) : ∀ i j v, idx k l i = some (j, v) → i ≤ j ∧ j < i + l.length ∧ (l[j - i]?) = some (k, v) := by
  induction l with
  | nil => intro i j v h; cases h
  | cons p r ih =>
    intro i j v h
    obtain ⟨a, c⟩ := p
    by_cases hk : k = a
    · subst hk
      simp only [idx, if_true, Option.some.injEq, Prod.mk.injEq] at h
      obtain ⟨rfl, rfl⟩ := h
      exact ⟨Nat.le_refl _, by simp, by simp⟩
    · simp only [idx, if_neg hk] at h
      obtain ⟨h1, h2, h3⟩ := ih (i + 1) j v h
      refine ⟨by omega, by simp only [List.length_cons]; omega, ?_⟩
      have e : j - i = (j - (i + 1)) + 1 := by omega
      rw [e, List.getElem?_cons_succ]
      exact h3
set_option maxRecDepth 100000 in
set_option maxHeartbeats 4000000 in
theorem keyed_any (r : RV) (k : Bytes) (w : World) (p bm : Nat) (L : List (Bytes × SV)) (hK : KAt w p bm L) (hr : RIn w r) (hT : PT w) (hl2 : r.b.length ≤ 1099511627776) (hkl : k.length ≤ 1099511627776) :
    Calls Tryz.prog 48 #[.pointer (some ⟨p, 0, none⟩), .agg r.cells, .string ⟨k.toArray⟩] w (KeyedR w p bm L (hKeyed (sto L) r.q k)) := by
  obtain ⟨me, sc, au, pa, A1, c1, fs, A2, c2, b, A3, c3, ts⟩ := r
  simp only [RV.cells, RV.q] at *
  have hfr : ∀ (w : World) t cs, Frm (New w) w (w.alloc (.cells cs t)) := fun w t cs => (Frm.refl _ w).alloc Up.new _
  have hs1 : ∀ (w : World) (t : TypeId) cs, (w.alloc (.cells cs t)).heap.size = w.heap.size + 1 := fun w t cs => by simp
  have hrd := fun (m : Bytes) (w' : World) => reads_any m w'
  have hno := fun (w' : World) (f : Frm (New w) w w') => none_any w' (hT.fresh f)
  have hnt := fun (a : Bytes) (w' : World) (f : Frm (New w) w w') => not_any a w' (hT.fresh f)
  have hky := fun (w' : World) => key_any k w' (by omega)
  have han0 : ∀ (st : Nat) (_ : st ≤ 999) (w' : World), PT w' → Calls Tryz.prog 29 #[.int .i64 (st : Int), .slice none 0 0, .slice none 0 0] w' (AnR w' (ans st [] [])) := fun st h w' t => answer_any st h none 0 [] none 0 [] w' Rd.nil Rd.nil (Nat.zero_le _) (Nat.zero_le _) t
  have hlKp := hK.blk.lt
  have hlKb := hK.map.lt
  obtain ⟨res, hres⟩ : ∃ res, res = hKeyed (sto L) ⟨me, sc, au, pa, fs, b, ts⟩ k := ⟨_, rfl⟩
  rw [← hres]
  have HFR := Lib.hid hfr
  have HS1 := Lib.hid hs1
  have HRD := Lib.hid hrd
  have HNO := Lib.hid hno
  have HNT := Lib.hid hnt
  have HR := Lib.hid hr
  have HK := Lib.hid hK
  have HKY := Lib.hid hky
  have HAN0 := Lib.hid han0
  have HRES := Lib.hid hres
  clear hfr hs1 hrd hno hnt hr hK hky han0 hres
  cases hkk : hKey k with
  | false =>
    have hq : res = (hNone, sto L) := by rw [HRES.out]; unfold hKeyed; rw [if_pos hkk]
    have hky2 := HKY.out
    rw [hkk] at hky2
    clear hkk HKY
    have HQ := Lib.hid hq
    have HKY2 := Lib.hid hky2
    clear hq hky2
    obtain ⟨CA, hCA⟩ : ∃ CA, CA = (#[.string ⟨me.toArray⟩, .string ⟨sc.toArray⟩, .string ⟨au.toArray⟩, .string ⟨pa.toArray⟩, .slice A1 fs.length c1, .slice A2 b.length c2, .slice A3 ts.length c3] : Array Value) := ⟨_, rfl⟩
    go_enter Tryz.func48, Tryz.ntmps48
    go_upto_region 1 with (fail)
    rw [← hCA]
    have hb1 := Blk.new w 32 CA
    have hF1 := HFR.out w 32 CA
    have hz1 := HS1.out w 32 CA
    generalize w.alloc (.cells CA 32) = w1 at *
    have hb2 := Blk.new w1 30 #[.slice none 0 0, .slice none 0 0, .slice none 0 0]
    have hF2 := HFR.out w1 30 #[.slice none 0 0, .slice none 0 0, .slice none 0 0]
    generalize w1.alloc (.cells #[.slice none 0 0, .slice none 0 0, .slice none 0 0] 30) = w2 at *
    have hbr := hb1.fresh hF2
    have hF02 := hF1.then_new Up.new hF2
    rw [hz1] at hb2
    rw [hCA] at hbr
    obtain ⟨gr, hgr⟩ : ∃ gr, gr = w.heap.size := ⟨_, rfl⟩
    rw [← hgr] at hbr hb2 hz1 ⊢
    obtain ⟨gm, hgm⟩ : ∃ gm, gm = gr + 1 := ⟨_, rfl⟩
    rw [← hgm] at hb2
    try rw [hz1]
    try rw [← hgm]
    have hgw : w.heap.size ≤ gm := by omega
    have hgrw : w.heap.size ≤ gr := by omega
    have hlm := hb2.lt
    have hlr := hbr.lt
    clear hb1 hF1 hF2 hgr hgm hz1 hCA
    have hy0 := hbr.cell 0
    simp only [List.getElem?_toArray, List.getElem?_cons_zero] at hy0
    have HBR := Lib.hid hbr
    have HB2 := Lib.hid hb2
    have HF02 := Lib.hid hF02
    clear hbr hb2 hF02
    go_wp2_with (first
      | (go_at_call 64; refine (HKY2.out _).mono ?_; rintro e w3 ⟨rfl, hF3⟩)
      | (go_at_call 53; refine (HNO.out _ (HF02.out.then_new Up.new hF3)).mono ?_; rintro e w4 ⟨m, rfl, hm⟩; have hbx := (HB2.out.fresh hF3).fresh hm.frm)
      | (refine wpList_store_agg rfl rfl rfl rfl hbx rfl (msg_one _ _ _ _ _ _ _ _ _) (by kernel_rfl) ?_; intro w8 hb8 hF8 hs8))
    refine bodyPost_ret (results_agg agM rfl rfl hb8 rfl) rfl ?_
    exact KeyedR.same HK.out (hm.done (HF02.out.then_new Up.new hF3) hgw (by have := hF3.size; omega) hF8) HQ.out
  | true =>
    have hky2 := HKY.out
    rw [hkk] at hky2
    have hk32 : k.length ≤ 32 := by
      have h := hkk
      unfold hKey at h
      simp only [Bool.and_eq_true, decide_eq_true_eq] at h
      exact h.2.1
    have hres2 := HRES.out
    unfold hKeyed at hres2
    rw [if_neg (by rw [hkk]; exact Bool.noConfusion)] at hres2
    clear hkk HKY HRES
    have HKY2 := Lib.hid hky2
    clear hky2
    obtain ⟨CA, hCA⟩ : ∃ CA, CA = (#[.string ⟨me.toArray⟩, .string ⟨sc.toArray⟩, .string ⟨au.toArray⟩, .string ⟨pa.toArray⟩, .slice A1 fs.length c1, .slice A2 b.length c2, .slice A3 ts.length c3] : Array Value) := ⟨_, rfl⟩
    go_enter Tryz.func48, Tryz.ntmps48
    go_upto_region 1 with (fail)
    rw [← hCA]
    have hb1 := Blk.new w 32 CA
    have hF1 := HFR.out w 32 CA
    have hz1 := HS1.out w 32 CA
    generalize w.alloc (.cells CA 32) = w1 at *
    have hb2 := Blk.new w1 30 #[.slice none 0 0, .slice none 0 0, .slice none 0 0]
    have hF2 := HFR.out w1 30 #[.slice none 0 0, .slice none 0 0, .slice none 0 0]
    generalize w1.alloc (.cells #[.slice none 0 0, .slice none 0 0, .slice none 0 0] 30) = w2 at *
    have hbr := hb1.fresh hF2
    have hF02 := hF1.then_new Up.new hF2
    rw [hz1] at hb2
    rw [hCA] at hbr
    obtain ⟨gr, hgr⟩ : ∃ gr, gr = w.heap.size := ⟨_, rfl⟩
    rw [← hgr] at hbr hb2 hz1 ⊢
    obtain ⟨gm, hgm⟩ : ∃ gm, gm = gr + 1 := ⟨_, rfl⟩
    rw [← hgm] at hb2
    try rw [hz1]
    try rw [← hgm]
    have hgw : w.heap.size ≤ gm := by omega
    have hgrw : w.heap.size ≤ gr := by omega
    have hlm := hb2.lt
    have hlr := hbr.lt
    clear hb1 hF1 hF2 hgr hgm hz1 hCA
    have hy0 := hbr.cell 0
    simp only [List.getElem?_toArray, List.getElem?_cons_zero] at hy0
    have HBR := Lib.hid hbr
    have HB2 := Lib.hid hb2
    have HF02 := Lib.hid hF02
    clear hbr hb2 hF02
    go_upto_region 3 with (first
      | (go_at_call 64; refine (HKY2.out _).mono ?_; rintro e w3 ⟨rfl, hF3⟩))
    have hbr3 := HBR.out.fresh hF3
    have hb3 := HB2.out.fresh hF3
    have hF03 := HF02.out.then_new Up.new hF3
    have hK3 := HK.out.fresh hF03
    have hT3 := hT.fresh hF03
    have hl3 := hbr3.lt
    have hlm3 := hb3.lt
    have hlp3 := hK3.blk.lt
    have hp0 := hK3.blk.cell 0
    simp only [List.getElem?_toArray, List.getElem?_cons_zero] at hp0
    have hR3 := (HR.out.fresh hF03).r2
    have hlk := run_lookup skey uMp zBy hK3.map k true
    have hlen := run_maplen hK3.map
    rw [show (entsV L).length = L.length from List.length_map _] at hlen
    have hgv : getE k (entsV L) = (getE k L).map SV.v := getE_map SV.v k L
    have hgs : getE k (sto L) = (getE k L).map (fun x => x.b) := getE_map (fun x : SV => x.b) k L
    rw [hgv] at hlk
    rw [hgs] at hres2
    have hLl := HK.out.len
    clear hy0 hF3 HBR HB2 HF02 HKY2 hgv hlm hlr
    have hy0 := hbr3.cell 0
    have hy5 := hbr3.cell 5
    simp only [List.getElem?_toArray, List.getElem?_cons_zero, List.getElem?_cons_succ] at hy0 hy5
    simp only [str, if_true] at hlk
    have HBR3 := Lib.hid hbr3
    have HB3 := Lib.hid hb3
    have HF03 := Lib.hid hF03
    have HK3 := Lib.hid hK3
    have HT3 := Lib.hid hT3
    have HR3 := Lib.hid hR3
    have HGS := Lib.hid hgs
    clear hbr3 hb3 hF03 hK3 hT3 hR3 hgs
    have hno3 := HNO.out w3 HF03.out
    have hnt3 := fun a => HNT.out a w3 HF03.out
    have han3 := fun st h => HAN0.out st h w3 HT3.out
    have HNO3 := Lib.hid hno3
    have HNT3 := Lib.hid hnt3
    have HAN3 := Lib.hid han3
    clear hno3 hnt3 han3
    cases hge : getE k L with
    | none =>
      rw [hge] at hlk hres2
      simp only [Option.map_none, Option.getD_none, Option.isSome_none] at hlk hres2
      have hge2 : (getE k (sto L)).isSome = false := by rw [HGS.out, hge]; rfl
      have HGE := Lib.hid hge
      have HGE2 := Lib.hid hge2
      clear hge hge2
      by_cases hput : me = bPUT
      · rw [if_pos hput] at hres2
        subst hput
        by_cases hfull : 64 ≤ L.length
        · have hq : res = (ans 507 [] [], sto L) := by rw [hres2, if_pos (by unfold sto; rw [List.length_map]; exact hfull)]
          have hfi : (64 : Int) ≤ L.length := by omega
          have HQ := Lib.hid hq
          clear hq
          clear hres2
          go_wp2_with (first
            | (go_at_call 29; refine (HAN3.out 507 (by decide)).mono ?_; rintro e w4 ⟨m, rfl, hm⟩; have hbx := HB3.out.fresh hm.frm)
            | (refine wpList_store_agg rfl rfl rfl rfl hbx rfl (msg_one _ _ _ _ _ _ _ _ _) (by kernel_rfl) ?_; intro w8 hb8 hF8 hs8))
          refine bodyPost_ret (results_agg agM rfl rfl hb8 rfl) rfl ?_
          exact KeyedR.same HK.out (hm.done HF03.out hgw hlm3 hF8) HQ.out
        · have hq : res = (ans 201 [] [], putE k b (sto L)) := by rw [hres2, if_neg (by unfold sto; rw [List.length_map]; exact hfull)]
          have hfi : ¬ (64 : Int) ≤ L.length := by omega
          have hcap : (getE k (sto L)).isSome = true ∨ L.length < 64 := .inr (by omega)
          have HQ := Lib.hid hq
          have HCAP := Lib.hid hcap
          clear hq hcap
          clear hres2
          go_upto_region 7 with (fail)
          have hS0 : w3.drew.cell? ⟨p, 0, none⟩ = some (.map (some bm)) ∧ w3.drew.cell? ⟨gr, 5, none⟩ = some (.slice A2 b.length c2) ∧ p < w3.drew.heap.size ∧ gr < w3.drew.heap.size := ⟨hp0, hy5, hlp3, hl3⟩
          refine wp_region_til (by kernel_rfl) (fun w' => w'.cell? ⟨p, 0, none⟩ = some (.map (some bm)) ∧ w'.cell? ⟨gr, 5, none⟩ = some (.slice A2 b.length c2) ∧ p < w'.heap.size ∧ gr < w'.heap.size) 8 ?_
          refine wpAnyT_take (i := 0) (v := ?_) (d := some 43) rfl (by rfl) (by kernel_rfl) (fun _ _ _ h => h) (by rfl) hS0 (fun w hSw => ?_) ?_
          rotate_left
          · (try dsimp only at hSw); go_simp; first | done | (with_reducible rfl)
          simp only [Act.put, List.setIfInBounds_toArray, List.set_cons_zero, List.set_cons_succ]
          refine wpAnyT_take (i := 1) (v := ?_) (d := some 44) rfl (by rfl) (by kernel_rfl) (fun _ _ _ h => h) (by rfl) hS0 (fun w hSw => ?_) ?_
          rotate_left
          · (try dsimp only at hSw); go_simp; first | done | (with_reducible rfl)
          simp only [Act.put, List.setIfInBounds_toArray, List.set_cons_zero, List.set_cons_succ]
          refine wpAnyT_take (i := 2) (v := ?_) (d := some 45) rfl (by rfl) (by kernel_rfl) (fun _ _ _ h => h) (by rfl) hS0 (fun w hSw => ?_) ?_
          rotate_left
          · (try dsimp only at hSw); go_simp; first | done | (with_reducible rfl)
          simp only [Act.put, List.setIfInBounds_toArray, List.set_cons_zero, List.set_cons_succ]
          refine wpAnyT_take (i := 3) (v := ?_) (d := some 46) rfl (by rfl) (by kernel_rfl) (fun _ _ _ h => h) (by rfl) hS0 (fun w hSw => ?_) ?_
          rotate_left
          · (try dsimp only at hSw); go_simp; first | done | (with_reducible rfl)
          simp only [Act.put, List.setIfInBounds_toArray, List.set_cons_zero, List.set_cons_succ]
          refine wpAnyT_take (i := 4) (v := ?_) (d := some 47) rfl (by rfl) (by kernel_rfl) (fun _ _ _ h => h) (by rfl) hS0 (fun w hSw => ?_) ?_
          rotate_left
          · (try dsimp only at hSw); go_simp; first | done | (with_reducible rfl)
          simp only [Act.put, List.setIfInBounds_toArray, List.set_cons_zero, List.set_cons_succ]
          refine wpAnyT_take (i := 5) (v := ?_) (d := some 48) rfl (by rfl) (by kernel_rfl) (fun _ _ _ h => h) (by rfl) hS0 (fun w hSw => ?_) ?_
          rotate_left
          · (try dsimp only at hSw); go_simp; first | done | (with_reducible rfl)
          simp only [Act.put, List.setIfInBounds_toArray, List.set_cons_zero, List.set_cons_succ]
          refine wpAnyT_take (i := 6) (v := ?_) (d := some 49) rfl (by rfl) (by kernel_rfl) (fun _ _ _ h => h) (by rfl) hS0 (fun w hSw => ?_) ?_
          rotate_left
          · (try dsimp only at hSw); go_simp; first | done | (with_reducible rfl)
          simp only [Act.put, List.setIfInBounds_toArray, List.set_cons_zero, List.set_cons_succ]
          refine wpAnyT_one (i := 7) rfl (by kernel_rfl) (fun K hKK => ?_)
          refine Eq.mpr (if_pos (by rfl)) ?_
          go_wp2_with (fail)
          refine (bclone_any A2 c2 b w3.drew HR3.out.drew hl2).mono ?_
          rintro e w4 ⟨A4, c4, rfl, hA4, hF4⟩
          have hF34 : Frm (New w3) w3 w4 := ((Frm.refl (New w3) w3).drew).trans hF4
          have hK4 := HK3.out.fresh hF34
          have hp4 := hK4.blk.cell 0
          simp only [List.getElem?_toArray, List.getElem?_cons_zero] at hp4
          have hr4 := (HBR3.out.fresh hF34).cell 5
          simp only [List.getElem?_toArray, List.getElem?_cons_zero, List.getElem?_cons_succ] at hr4
          refine hKK.out _ _ (.inr ⟨hp4, hr4, hK4.blk.lt, (HBR3.out.fresh hF34).lt⟩) ?_
          clear hKK K hS0 hp4 hr4 hlk hlen
          try simp only [Act.put, List.setIfInBounds_toArray, List.set_cons_zero, List.set_cons_succ]
          have hRA4 := hA4.rd
          have hIA4 := hA4.inM
          refine wpAnyT_one (i := 8) rfl (by kernel_rfl) (fun K hKK => ?_)
          refine Eq.mpr (if_pos (by rfl)) ?_
          have hup := run_update skey uMp hK4.map k (.slice A4 b.length c4)
          obtain ⟨w5, hru, hM5, hF5, hs5⟩ := hup
          simp only [str] at hru
          have hK5 := hK4.put k ⟨A4, c4, b⟩ hM5 hF5 hRA4 (fun hn z hz e => by have h1 : w3.heap.size ≤ z := hIA4 z hz; have h2 := HK3.out.map.lt; omega) hl2 HCAP.out hk32
          have hF45 : Frm (fun z => z = bm ∨ New w z) w w5 := ((HF03.out.trans (hF34.mono (fun z hz => by have := HF03.out.size; unfold New at hz ⊢; omega))).mono (fun z hz => .inr hz)).trans (hF5.mono (fun z hz => .inl hz))
          have hb5 := (HB3.out.fresh hF34).keep hF5 (fun e => by have e2 : gm = bm := e; omega)
          have hbr5 := (HBR3.out.fresh hF34).keep hF5 (fun e => by have e2 : gr = bm := e; omega)
          have hT5 : PT w5 := PT.keepb hT (hF45) hlKb HK.out.map
          have hlm5 := hb5.lt
          have h45 : w4.heap.size ≤ w5.heap.size := hF5.size
          have hA4n : ∀ z, blk A4 = some z → w3.heap.size ≤ z := hIA4
          have HK5 := Lib.hid hK5
          have HF45 := Lib.hid hF45
          have HB5 := Lib.hid hb5
          have HBR5 := Lib.hid hbr5
          have HT5 := Lib.hid hT5
          have HM5 := Lib.hid hM5
          have HF5 := Lib.hid hF5
          have HRA4 := Lib.hid hRA4
          have HIA4 := Lib.hid hIA4
          have HA4N := Lib.hid hA4n
          clear hK5 hF45 hb5 hbr5 hT5 hM5 hF5 hRA4 hIA4 hA4n
          go_simp
          refine hKK.out _ _ (.inl (by kernel_rfl)) ?_
          clear hKK K hru
          try simp only [Act.put, List.setIfInBounds_toArray, List.set_cons_zero, List.set_cons_succ]
          refine wpAnyT_done (by kernel_rfl) ?_ _
          go_wp2_with (first
            | (go_at_call 29; refine (HAN0.out 201 (by decide) _ HT5.out).mono ?_; rintro e w6 ⟨m, rfl, hm⟩; have hbx := HB5.out.fresh hm.frm)
            | (refine wpList_store_agg rfl rfl rfl rfl hbx rfl (msg_one _ _ _ _ _ _ _ _ _) (by kernel_rfl) ?_; intro w8 hb8 hF8 hs8))
          refine bodyPost_ret (results_agg agM rfl rfl hb8 rfl) rfl ?_
          rw [HQ.out]
          refine ⟨m, putE k ⟨A4, c4, b⟩ L, rfl, hm.doneB HF45.out hgw hlm5 hF8, (HK5.out.fresh hm.frm).keep hF8 (fun e => by have e2 : p = gm := e; omega) (fun e => by have e2 : bm = gm := e; omega) (fun x hx hn z hz e => ?_), (putE_map (fun x : SV => x.b) k ⟨A4, c4, b⟩ L).symm, fun x hx hn z hz => by rcases mem_put hx with rfl | hx; exact .inr (by have := HA4N.out z hz; have := HF03.out.size; omega); exact .inl hx⟩
          have e2 : z = gm := e
          rcases mem_put hx with rfl | hx
          · have := HA4N.out z hz; omega
          · have := (HK.out.val x hx).blk_lt hn hz; omega
      · rw [if_neg hput] at hres2
        have p1 : (me == [80, 85, 84]) = false := beq_eq_false_iff_ne.2 hput
        have p2 : ¬ me = [80, 85, 84] := hput
        have hrm := fun w' => HRD.out me w'
        cases hrr : hReads me with
        | true =>
          rw [hrr] at hrm
          rw [if_neg (by rw [hrr]; intro h; cases h.1)] at hres2
          have HRES2 := Lib.hid hres2
          have HRM := Lib.hid hrm
          have HRR := Lib.hid hrr
          clear hres2 hrm hrr
          clear hput
          go_wp2_with (first
            | (go_at_call 62; refine (HRM.out _).mono ?_; rintro e w' ⟨rfl, hw⟩; rw [← hw]; clear hw w')
            | (go_at_call 53; refine (HNO3.out).mono ?_; rintro e w4 ⟨m, rfl, hm⟩; have hbx := HB3.out.fresh hm.frm)
            | (refine wpList_store_agg rfl rfl rfl rfl hbx rfl (msg_one _ _ _ _ _ _ _ _ _) (by kernel_rfl) ?_; intro w8 hb8 hF8 hs8))
          refine bodyPost_ret (results_agg agM rfl rfl hb8 rfl) rfl ?_
          exact KeyedR.same HK.out (hm.done HF03.out hgw hlm3 hF8) HRES2.out
        | false =>
          rw [hrr] at hrm
          by_cases hdel : me = bDEL
          · rw [if_neg (fun h => h.2 hdel)] at hres2
            subst hdel
            clear hput p1 p2 hrr
            have HRES2 := Lib.hid hres2
            have HRM := Lib.hid hrm
            clear hres2 hrm
            go_wp2_with (first
              | (go_at_call 62; refine (HRM.out _).mono ?_; rintro e w' ⟨rfl, hw⟩; rw [← hw]; clear hw w')
              | (go_at_call 53; refine (HNO3.out).mono ?_; rintro e w4 ⟨m, rfl, hm⟩; have hbx := HB3.out.fresh hm.frm)
              | (refine wpList_store_agg rfl rfl rfl rfl hbx rfl (msg_one _ _ _ _ _ _ _ _ _) (by kernel_rfl) ?_; intro w8 hb8 hF8 hs8))
            refine bodyPost_ret (results_agg agM rfl rfl hb8 rfl) rfl ?_
            exact KeyedR.same HK.out (hm.done HF03.out hgw hlm3 hF8) HRES2.out
          · rw [if_pos ⟨hrr, hdel⟩] at hres2
            have q1 : (me == [68, 69, 76, 69, 84, 69]) = false := beq_eq_false_iff_ne.2 hdel
            have q2 : ¬ me = [68, 69, 76, 69, 84, 69] := hdel
            clear hput hdel
            have HRES2 := Lib.hid hres2
            have HRM := Lib.hid hrm
            have HRR := Lib.hid hrr
            clear hres2 hrm hrr
            go_wp2_with (first
              | (go_at_call 62; refine (HRM.out _).mono ?_; rintro e w' ⟨rfl, hw⟩; rw [← hw]; clear hw w')
              | (go_at_call 63; refine (HNT3.out bPGHD).mono ?_; rintro e w4 ⟨m, rfl, hm⟩; have hbx := HB3.out.fresh hm.frm)
              | (refine wpList_store_agg rfl rfl rfl rfl hbx rfl (msg_one _ _ _ _ _ _ _ _ _) (by kernel_rfl) ?_; intro w8 hb8 hF8 hs8))
            refine bodyPost_ret (results_agg agM rfl rfl hb8 rfl) rfl ?_
            exact KeyedR.same HK.out (hm.done HF03.out hgw hlm3 hF8) HRES2.out
    | some s =>
      have hgx : Rd w3 s.A (bvs s.b) ∧ s.b.length ≤ 1099511627776 := by
        have hm : (k, s) ∈ L := by
          unfold getE at hge
          cases hi : idx k L 0 with
          | none => rw [hi] at hge; cases hge
          | some q =>
            obtain ⟨j, v⟩ := q
            rw [hi] at hge
            cases hge
            obtain ⟨_, _, h3⟩ := idx_lt_ k L 0 j _ hi
            exact List.mem_of_getElem? h3
        exact ⟨HK3.out.val _ hm, HK3.out.small _ hm⟩
      rw [hge] at hlk hres2
      simp only [Option.map_some, Option.getD_some, Option.isSome_some, SV.v] at hlk hres2
      have hge2 : (getE k (sto L)).isSome = true := by rw [HGS.out, hge]; rfl
      obtain ⟨sA, sc_, sb⟩ := s
      simp only at hgx hlk hres2
      obtain ⟨hgx, hgl⟩ := hgx
      have HGE := Lib.hid hge
      have HGE2 := Lib.hid hge2
      have HGX := Lib.hid hgx
      clear hge hge2 hgx
      by_cases hput : me = bPUT
      · rw [if_pos hput] at hres2
        subst hput
        have hq := hres2
        have hcap : (getE k (sto L)).isSome = true ∨ L.length < 64 := .inl HGE2.out
        have HQ := Lib.hid hq
        have HCAP := Lib.hid hcap
        clear hq hcap
        clear hres2
        go_upto_region 7 with (fail)
        have hS0 : w3.drew.cell? ⟨p, 0, none⟩ = some (.map (some bm)) ∧ w3.drew.cell? ⟨gr, 5, none⟩ = some (.slice A2 b.length c2) ∧ p < w3.drew.heap.size ∧ gr < w3.drew.heap.size := ⟨hp0, hy5, hlp3, hl3⟩
        refine wp_region_til (by kernel_rfl) (fun w' => w'.cell? ⟨p, 0, none⟩ = some (.map (some bm)) ∧ w'.cell? ⟨gr, 5, none⟩ = some (.slice A2 b.length c2) ∧ p < w'.heap.size ∧ gr < w'.heap.size) 8 ?_
        refine wpAnyT_take (i := 0) (v := ?_) (d := some 43) rfl (by rfl) (by kernel_rfl) (fun _ _ _ h => h) (by rfl) hS0 (fun w hSw => ?_) ?_
        rotate_left
        · (try dsimp only at hSw); go_simp; first | done | (with_reducible rfl)
        simp only [Act.put, List.setIfInBounds_toArray, List.set_cons_zero, List.set_cons_succ]
        refine wpAnyT_take (i := 1) (v := ?_) (d := some 44) rfl (by rfl) (by kernel_rfl) (fun _ _ _ h => h) (by rfl) hS0 (fun w hSw => ?_) ?_
        rotate_left
        · (try dsimp only at hSw); go_simp; first | done | (with_reducible rfl)
        simp only [Act.put, List.setIfInBounds_toArray, List.set_cons_zero, List.set_cons_succ]
        refine wpAnyT_take (i := 2) (v := ?_) (d := some 45) rfl (by rfl) (by kernel_rfl) (fun _ _ _ h => h) (by rfl) hS0 (fun w hSw => ?_) ?_
        rotate_left
        · (try dsimp only at hSw); go_simp; first | done | (with_reducible rfl)
        simp only [Act.put, List.setIfInBounds_toArray, List.set_cons_zero, List.set_cons_succ]
        refine wpAnyT_take (i := 3) (v := ?_) (d := some 46) rfl (by rfl) (by kernel_rfl) (fun _ _ _ h => h) (by rfl) hS0 (fun w hSw => ?_) ?_
        rotate_left
        · (try dsimp only at hSw); go_simp; first | done | (with_reducible rfl)
        simp only [Act.put, List.setIfInBounds_toArray, List.set_cons_zero, List.set_cons_succ]
        refine wpAnyT_take (i := 4) (v := ?_) (d := some 47) rfl (by rfl) (by kernel_rfl) (fun _ _ _ h => h) (by rfl) hS0 (fun w hSw => ?_) ?_
        rotate_left
        · (try dsimp only at hSw); go_simp; first | done | (with_reducible rfl)
        simp only [Act.put, List.setIfInBounds_toArray, List.set_cons_zero, List.set_cons_succ]
        refine wpAnyT_take (i := 5) (v := ?_) (d := some 48) rfl (by rfl) (by kernel_rfl) (fun _ _ _ h => h) (by rfl) hS0 (fun w hSw => ?_) ?_
        rotate_left
        · (try dsimp only at hSw); go_simp; first | done | (with_reducible rfl)
        simp only [Act.put, List.setIfInBounds_toArray, List.set_cons_zero, List.set_cons_succ]
        refine wpAnyT_take (i := 6) (v := ?_) (d := some 49) rfl (by rfl) (by kernel_rfl) (fun _ _ _ h => h) (by rfl) hS0 (fun w hSw => ?_) ?_
        rotate_left
        · (try dsimp only at hSw); go_simp; first | done | (with_reducible rfl)
        simp only [Act.put, List.setIfInBounds_toArray, List.set_cons_zero, List.set_cons_succ]
        refine wpAnyT_one (i := 7) rfl (by kernel_rfl) (fun K hKK => ?_)
        refine Eq.mpr (if_pos (by rfl)) ?_
        go_wp2_with (fail)
        refine (bclone_any A2 c2 b w3.drew HR3.out.drew hl2).mono ?_
        rintro e w4 ⟨A4, c4, rfl, hA4, hF4⟩
        have hF34 : Frm (New w3) w3 w4 := ((Frm.refl (New w3) w3).drew).trans hF4
        have hK4 := HK3.out.fresh hF34
        have hp4 := hK4.blk.cell 0
        simp only [List.getElem?_toArray, List.getElem?_cons_zero] at hp4
        have hr4 := (HBR3.out.fresh hF34).cell 5
        simp only [List.getElem?_toArray, List.getElem?_cons_zero, List.getElem?_cons_succ] at hr4
        refine hKK.out _ _ (.inr ⟨hp4, hr4, hK4.blk.lt, (HBR3.out.fresh hF34).lt⟩) ?_
        clear hKK K hS0 hp4 hr4 hlk hlen
        try simp only [Act.put, List.setIfInBounds_toArray, List.set_cons_zero, List.set_cons_succ]
        have hRA4 := hA4.rd
        have hIA4 := hA4.inM
        refine wpAnyT_one (i := 8) rfl (by kernel_rfl) (fun K hKK => ?_)
        refine Eq.mpr (if_pos (by rfl)) ?_
        have hup := run_update skey uMp hK4.map k (.slice A4 b.length c4)
        obtain ⟨w5, hru, hM5, hF5, hs5⟩ := hup
        simp only [str] at hru
        have hK5 := hK4.put k ⟨A4, c4, b⟩ hM5 hF5 hRA4 (fun hn z hz e => by have h1 : w3.heap.size ≤ z := hIA4 z hz; have h2 := HK3.out.map.lt; omega) hl2 HCAP.out hk32
        have hF45 : Frm (fun z => z = bm ∨ New w z) w w5 := ((HF03.out.trans (hF34.mono (fun z hz => by have := HF03.out.size; unfold New at hz ⊢; omega))).mono (fun z hz => .inr hz)).trans (hF5.mono (fun z hz => .inl hz))
        have hb5 := (HB3.out.fresh hF34).keep hF5 (fun e => by have e2 : gm = bm := e; omega)
        have hbr5 := (HBR3.out.fresh hF34).keep hF5 (fun e => by have e2 : gr = bm := e; omega)
        have hT5 : PT w5 := PT.keepb hT (hF45) hlKb HK.out.map
        have hlm5 := hb5.lt
        have h45 : w4.heap.size ≤ w5.heap.size := hF5.size
        have hA4n : ∀ z, blk A4 = some z → w3.heap.size ≤ z := hIA4
        have HK5 := Lib.hid hK5
        have HF45 := Lib.hid hF45
        have HB5 := Lib.hid hb5
        have HBR5 := Lib.hid hbr5
        have HT5 := Lib.hid hT5
        have HM5 := Lib.hid hM5
        have HF5 := Lib.hid hF5
        have HRA4 := Lib.hid hRA4
        have HIA4 := Lib.hid hIA4
        have HA4N := Lib.hid hA4n
        clear hK5 hF45 hb5 hbr5 hT5 hM5 hF5 hRA4 hIA4 hA4n
        go_simp
        refine hKK.out _ _ (.inl (by kernel_rfl)) ?_
        clear hKK K hru
        try simp only [Act.put, List.setIfInBounds_toArray, List.set_cons_zero, List.set_cons_succ]
        refine wpAnyT_done (by kernel_rfl) ?_ _
        go_wp2_with (first
          | (go_at_call 29; refine (HAN0.out 204 (by decide) _ HT5.out).mono ?_; rintro e w6 ⟨m, rfl, hm⟩; have hbx := HB5.out.fresh hm.frm)
          | (refine wpList_store_agg rfl rfl rfl rfl hbx rfl (msg_one _ _ _ _ _ _ _ _ _) (by kernel_rfl) ?_; intro w8 hb8 hF8 hs8))
        refine bodyPost_ret (results_agg agM rfl rfl hb8 rfl) rfl ?_
        rw [HQ.out]
        refine ⟨m, putE k ⟨A4, c4, b⟩ L, rfl, hm.doneB HF45.out hgw hlm5 hF8, (HK5.out.fresh hm.frm).keep hF8 (fun e => by have e2 : p = gm := e; omega) (fun e => by have e2 : bm = gm := e; omega) (fun x hx hn z hz e => ?_), (putE_map (fun x : SV => x.b) k ⟨A4, c4, b⟩ L).symm, fun x hx hn z hz => by rcases mem_put hx with rfl | hx; exact .inr (by have := HA4N.out z hz; have := HF03.out.size; omega); exact .inl hx⟩
        have e2 : z = gm := e
        rcases mem_put hx with rfl | hx
        · have := HA4N.out z hz; omega
        · have := (HK.out.val x hx).blk_lt hn hz; omega
      · rw [if_neg hput] at hres2
        have p1 : (me == [80, 85, 84]) = false := beq_eq_false_iff_ne.2 hput
        have p2 : ¬ me = [80, 85, 84] := hput
        have hrm := fun w' => HRD.out me w'
        by_cases hdel : me = bDEL
        · rw [if_neg (fun h => h.2 hdel), if_pos hdel] at hres2
          have hrr : hReads me = false := by rw [hdel]; decide
          rw [hrr] at hrm
          subst hdel
          clear hput p1 p2 hrr
          have HRES2 := Lib.hid hres2
          have HRM := Lib.hid hrm
          clear hres2 hrm
          go_upto_region 17 with (first
            | (go_at_call 62; refine (HRM.out _).mono ?_; rintro e w' ⟨rfl, hw⟩; rw [← hw]; clear hw w')
            | (refine wpList_delete (k := k) skey uMp rfl rfl rfl rfl HK3.out.map ?_; intro w5 hM5 hF5 hs5))
          have hK5 := HK3.out.del k hM5 hF5
          have hF45 : Frm (fun z => z = bm ∨ New w z) w w5 := (HF03.out.mono (fun z hz => .inr hz)).trans (hF5.mono (fun z hz => .inl hz))
          have hb5 := HB3.out.keep hF5 (fun e => by have e2 : gm = bm := e; omega)
          have hT5 : PT w5 := PT.keepb hT (hF45) hlKb HK.out.map
          have hlm5 := hb5.lt
          clear hlk hlen hM5 hF5
          have HK5 := Lib.hid hK5
          have HF45 := Lib.hid hF45
          have HB5 := Lib.hid hb5
          have HT5 := Lib.hid hT5
          clear hK5 hF45 hb5 hT5
          go_wp2_with (first
            | (go_at_call 29; refine (HAN0.out 204 (by decide) _ HT5.out).mono ?_; rintro e w6 ⟨m, rfl, hm⟩; have hbx := HB5.out.fresh hm.frm)
            | (refine wpList_store_agg rfl rfl rfl rfl hbx rfl (msg_one _ _ _ _ _ _ _ _ _) (by kernel_rfl) ?_; intro w8 hb8 hF8 hs8))
          refine bodyPost_ret (results_agg agM rfl rfl hb8 rfl) rfl ?_
          rw [HRES2.out]
          refine ⟨m, delE k L, rfl, hm.doneB HF45.out hgw hlm5 hF8, (HK5.out.fresh hm.frm).keep hF8 (fun e => by have e2 : p = gm := e; omega) (fun e => by have e2 : bm = gm := e; omega) (fun x hx hn z hz e => ?_), (delE_map (fun x : SV => x.b) k L).symm, fun x hx _ _ _ => .inl (mem_del hx)⟩
          have e2 : z = gm := e
          have := (HK.out.val x (mem_del hx)).blk_lt hn hz
          omega
        · have q1 : (me == [68, 69, 76, 69, 84, 69]) = false := beq_eq_false_iff_ne.2 hdel
          have q2 : ¬ me = [68, 69, 76, 69, 84, 69] := hdel
          cases hrr : hReads me with
          | true =>
            rw [hrr] at hrm
            rw [if_neg (by rw [hrr]; intro h; cases h.1), if_neg hdel] at hres2
            have han4 := answer_any 200 (by decide) sA sc_ sb none 0 [] w3 HGX.out Rd.nil hgl (Nat.zero_le _) HT3.out
            clear hput hdel
            have HRES2 := Lib.hid hres2
            have HRM := Lib.hid hrm
            have HRR := Lib.hid hrr
            have HAN4 := Lib.hid han4
            clear hres2 hrm hrr han4
            go_wp2_with (first
              | (go_at_call 62; refine (HRM.out _).mono ?_; rintro e w' ⟨rfl, hw⟩; rw [← hw]; clear hw w')
              | (go_at_call 29; refine (HAN4.out).mono ?_; rintro e w4 ⟨m, rfl, hm⟩; have hbx := HB3.out.fresh hm.frm)
              | (refine wpList_store_agg rfl rfl rfl rfl hbx rfl (msg_one _ _ _ _ _ _ _ _ _) (by kernel_rfl) ?_; intro w8 hb8 hF8 hs8))
            refine bodyPost_ret (results_agg agM rfl rfl hb8 rfl) rfl ?_
            exact KeyedR.same HK.out (hm.done HF03.out hgw hlm3 hF8) HRES2.out
          | false =>
            rw [hrr] at hrm
            rw [if_pos ⟨hrr, hdel⟩] at hres2
            clear hput hdel
            have HRES2 := Lib.hid hres2
            have HRM := Lib.hid hrm
            have HRR := Lib.hid hrr
            clear hres2 hrm hrr
            go_wp2_with (first
              | (go_at_call 62; refine (HRM.out _).mono ?_; rintro e w' ⟨rfl, hw⟩; rw [← hw]; clear hw w')
              | (go_at_call 63; refine (HNT3.out bPGHD).mono ?_; rintro e w4 ⟨m, rfl, hm⟩; have hbx := HB3.out.fresh hm.frm)
              | (refine wpList_store_agg rfl rfl rfl rfl hbx rfl (msg_one _ _ _ _ _ _ _ _ _) (by kernel_rfl) ?_; intro w8 hb8 hF8 hs8))
            refine bodyPost_ret (results_agg agM rfl rfl hb8 rfl) rfl ?_
            exact KeyedR.same HK.out (hm.done HF03.out hgw hlm3 hF8) HRES2.out
end Go.Proofs.YtpojejdddgdjdaaGreatDoor.M
