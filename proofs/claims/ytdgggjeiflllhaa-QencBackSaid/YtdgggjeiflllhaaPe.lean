/- The document's QPACK decoder in memory; right instructions, one behind another. The document's QPACK decoder: Feed of right instructions. -/
import Derived.BigQuiet
import Derived.Deep.CutBlock
import Derived.Lib.Hide
import Derived.IntWalk
import Derived.Deep.LoopGhost
import Derived.Test.YtdgggjeiflllhaaPc
import Derived.Test.YtdgggjeiflllhaaQt
import Derived.Test.YtdgggjeiflllhaaArr
import Derived.Test.YtdgggjeiflllhaaCap
namespace Go.Proofs.Ytdgggjeiflllhaa.M
open Go.ChangeShapes Go.WideShapes Go.ChangeAt Go.RowKit

/-- instructions that are right: from a table to a table -/
inductive Right (lim : Nat) : Tb → Bytes → Tb → Prop
  | nil (T : Tb) : Right lim T [] T
  | named {T T2 : Tb} {b : Bytes} {i k k2 : Nat} {nm gv v : Bytes} (h : 192 ≤ (b.headD 0).toNat) (hr : rdp b 6 = (i, k, 0)) (hg : h3tab[i]? = some (nm, gv)) (hv : strD (b.drop k) 7 = (v, k2, 0)) (hf : fsize (nm, v) ≤ T.cap) (r : Right lim (T.add (nm, v)) (b.drop (k + k2)) T2) : Right lim T b T2
  | lit {T T2 : Tb} {b : Bytes} {k k2 : Nat} {nm v : Bytes} (h1 : 64 ≤ (b.headD 0).toNat) (h2 : (b.headD 0).toNat < 128) (hr : strD b 5 = (nm, k, 0)) (hv : strD (b.drop k) 7 = (v, k2, 0)) (hf : fsize (nm, v) ≤ T.cap) (r : Right lim (T.add (nm, v)) (b.drop (k + k2)) T2) : Right lim T b T2
  | size {T T2 : Tb} {b : Bytes} {n k : Nat} (h1 : 32 ≤ (b.headD 0).toNat) (h2 : (b.headD 0).toNat < 64) (hr : rdp b 5 = (n, k, 0)) (hn : n ≤ lim) (r : Right lim (T.resize n) (b.drop k) T2) : Right lim T b T2
set_option maxRecDepth 100000 in
set_option maxHeartbeats 4000000 in
theorem rone_size {S : Nat → Prop} {g pd lim : Nat} {T : Tb} {n k : Nat} (b : Bytes) (A : Option Addr) (c : Nat) (w : World) (hR : Rd w A (bvs b)) (hl : b.length ≤ 1099511627776) (h : RqB w pd g lim) (hT : RTabS S w g T)
    (h32 : 32 ≤ (b.headD 0).toNat) (h64 : (b.headD 0).toNat < 64) (hrd : rdp b 5 = (n, k, 0)) (hn : n ≤ lim) (hlim : lim ≤ 4096) :
    Calls Try.prog 47 #[.pointer (some ⟨pd, 0, none⟩), .slice A b.length c] w (OneR S w g (T.resize n) k) := by
  have hx8 : (b.headD 0).toNat < 256 := (b.headD 0).toNat_lt
  have hrg := rdp_range b 5 (by decide) (by rw [hrd])
  rw [hrd] at hrg
  simp only at hrg
  have hrdc : ∀ w', Frm (New w) w w' → Calls Try.prog 62 #[.slice A b.length c, .int .i64 5] w' fun e w2 => e = .returned (.tuple #[.int .u64 (n : Int), .int .i64 (k : Int), .int .i64 0]) ∧ ∃ n, w2 = w'.drewN n := fun w' fr => by
    have := rrdp_any b A c 5 w' (hR.fresh fr) (by omega) (by omega) (by omega)
    rw [hrd] at this
    exact this
  obtain ⟨e1, e2⟩ : (bits .and .u8 ((b.headD 0).toNat : Int) 128 == 0) = true ∧ (bits .and .u8 ((b.headD 0).toNat : Int) 128 != 0) = false := mask_is (x := (b.headD 0).toNat) (m := 128) (b := true) hx8 (.inl rfl) (decide_eq_true (by omega))
  obtain ⟨e3, e4⟩ : (bits .and .u8 ((b.headD 0).toNat : Int) 64 == 0) = true ∧ (bits .and .u8 ((b.headD 0).toNat : Int) 64 != 0) = false := mask_is (x := (b.headD 0).toNat) (m := 64) (b := true) hx8 (.inr (.inl rfl)) (decide_eq_true (by omega))
  obtain ⟨e5, e6⟩ : (bits .and .u8 ((b.headD 0).toNat : Int) 32 == 0) = false ∧ (bits .and .u8 ((b.headD 0).toNat : Int) 32 != 0) = true := mask_is (x := (b.headD 0).toNat) (m := 32) (b := false) hx8 (.inr (.inr (.inl rfl))) (decide_eq_false (by omega))
  have hb1 : 0 < b.length := by omega
  obtain ⟨gb, off, hAe, hx0⟩ := hR.at_ (k := 0) (by rw [bvs_length]; exact hb1)
  subst hAe
  have hxc : w.cell? ⟨gb, off, none⟩ = some (.int .u8 ((b.headD 0).toNat : Int)) := by
    rw [Nat.add_zero] at hx0
    rw [hx0]
    cases b with
    | nil => simp at hb1
    | cons x r => rfl
  clear hx0
  have hgb : gb < w.heap.size := World.block_lt_of_cell? _ _ hxc
  have hni : ¬ (lim : Int) < (n : Int) := by omega
  have hwl : IntKind.u64.wrap (lim : Int) = (lim : Int) := IntWalk.u64_in _ (by omega)
  have hwn : IntKind.i64.wrap (n : Int) = (n : Int) := IntWalk.i64_in _ (by omega)
  clear hR hrd
  generalize (b.headD 0).toNat = x at *
  generalize b.length = bn at *
  have H := Lib.hid h
  have HT := Lib.hid hT
  have HRDC := Lib.hid hrdc
  clear h hT hrdc
  go_enter Try.func47, Try.ntmps47
  have hF1 : Frm (New w) w (w.alloc (Obj.cells #[.string ⟨#[]⟩, .string ⟨#[]⟩] 71)) := (Frm.refl _ _).alloc Up.new _
  go_upto_region 12 with (fail)
  generalize w.alloc (Obj.cells #[.string ⟨#[]⟩, .string ⟨#[]⟩] 71) = w1 at *
  clear hxc hgb
  have HF1 := Lib.hid hF1
  clear hF1
  go_wp2_with (fail)
  refine (HRDC.out w1 HF1.out).mono ?_
  rintro e w2 ⟨rfl, n2, rfl⟩
  have hF2 := HF1.out.drewN n2
  generalize w1.drewN n2 = w2 at *
  have hd2 := H.out.fresh hF2
  have hp0 := hd2.t
  have hp1 := hd2.m
  have hpl := hd2.lt
  have hres := rtresize_any n w2 (HT.out.fresh hF2) (by omega)
  have HF2 := Lib.hid hF2
  have HRES := Lib.hid hres
  clear hF2 hres
  go_wp2_with (fail)
  refine HRES.out.mono ?_
  rintro e w3 ⟨⟨m, rfl⟩, hT3, hF3⟩
  have HT3 := Lib.hid hT3
  have HF3 := Lib.hid hF3
  clear hT3 hF3
  go_wp2
  refine bodyPost_ret (results_tmp2 rfl _ _ _) rfl ?_
  exact ⟨rfl, S, HT3.out, (HF2.out.mono (fun k hk => .inr hk)).trans (HF3.out.mono (fun k hk => .inl hk)), fun k hk => .inl hk⟩
/-- the first of right instructions -/
theorem Right.one {lim : Nat} {T T2 : Tb} {b : Bytes} (h : Right lim T b T2) (hne : b ≠ []) (hok : T.Ok) (hcap : T.cap ≤ 4096) (hlim : lim ≤ 4096) (hl : b.length ≤ 1099511627776) (htn : T.n + b.length ≤ 1152921504606846976) :
    ∃ T1 k, Right lim T1 (b.drop k) T2 ∧ 1 ≤ k ∧ k ≤ b.length ∧ T1.Ok ∧ T1.cap ≤ 4096 ∧ T1.n ≤ T.n + 1 ∧ ∀ {S : Nat → Prop} {g pd : Nat} (A : Option Addr) (c : Nat) (w : World), Rd w A (bvs b) → b.length ≤ c → RqB w pd g lim → RTabS S w g T → pd ≠ g →
      Calls Try.prog 47 #[.pointer (some ⟨pd, 0, none⟩), .slice A b.length c] w (OneR S w g T1 k) := by
  have hb0 : 0 < b.length := List.length_pos_iff.2 hne
  have hadd : ∀ f : Fld, fsize f ≤ T.cap → (T.add f).cap ≤ 4096 ∧ (T.add f).n ≤ T.n + 1 := fun f hf => by
    unfold Tb.add
    rw [if_pos hf]
    exact ⟨hcap, Nat.le_refl _⟩
  cases h with
  | nil => exact absurd rfl hne
  | named h hr hg hv hf r =>
    rename_i i k k2 nm gv v
    have h1 := rdp_range b 6 (by decide) (by rw [hr])
    have h2 := strD_range (b.drop k) 7 (by decide) (by rw [hv])
    rw [hr] at h1
    rw [hv, List.length_drop] at h2
    simp only at h1 h2
    refine ⟨_, k + k2, r, by omega, by omega, hok.add _, (hadd _ hf).1, (hadd _ hf).2, fun A c w hR hc hb hT hpg => ?_⟩
    exact rone_named b A c w hR hl hc hb hT hpg h hr hg hv hf hcap (by omega)
  | lit h1' h2' hr hv hf r =>
    rename_i k k2 nm v
    have h1 := strD_range b 5 (by decide) (by rw [hr])
    have h2 := strD_range (b.drop k) 7 (by decide) (by rw [hv])
    rw [hr] at h1
    rw [hv, List.length_drop] at h2
    simp only at h1 h2
    refine ⟨_, k + k2, r, by omega, by omega, hok.add _, (hadd _ hf).1, (hadd _ hf).2, fun A c w hR hc hb hT hpg => ?_⟩
    exact rone_lit b A c w hR hl hc hb hT hpg h1' h2' hr hv hf hcap (by omega)
  | size h1' h2' hr hn r =>
    rename_i n k
    have h1 := rdp_range b 5 (by decide) (by rw [hr])
    rw [hr] at h1
    simp only at h1
    refine ⟨_, k, r, h1.1, h1.2.1, hok.resize _, by show n ≤ 4096; omega, by show T.n ≤ T.n + 1; omega, fun A c w hR hc hb hT hpg => ?_⟩
    exact rone_size b A c w hR hl hb hT h1' h2' hr hn hlim
theorem App.tight' {N : Nat → Prop} {w : World} {e size n c : Nat} {A : Option Addr} {xs : List Value} (h : App N w e size A n c xs) : App (fun k => M.blk A = some k) w e size A n c xs :=
  { h with
    inM := fun k hk => hk
    own := fun hc => by
      obtain ⟨gg, off, cur, a, b2, d, m⟩ := h.own hc
      exact ⟨gg, off, cur, a, b2, d, by rw [a]; rfl⟩ }
/-- the document's decoder: its cells, its table, what waits of instructions, what is to be sent -/
structure RqM (X : Nat → Prop) (w : World) (pd g : Nat) (S : Nat → Prop) (Ar : Option Addr) (cr : Nat) (r : Bytes) (Ao : Option Addr) (co : Nat) (D : Qd) : Prop where
  blk : Blk w pd 80 #[.pointer (some ⟨g, 0, none⟩), .int .i64 (D.lim : Int), .int .i64 (D.blk : Int), .slice Ar r.length cr, .bool false, .slice none 0 0, .slice Ao D.out.length co, .int .u64 (D.told : Int)]
  tab : RTabS S w g D.t
  rest : Rd w Ar (bvs r)
  rc : r.length ≤ cr
  rr : ∀ k, M.blk Ar = some k → r ≠ [] → k < w.heap.size ∧ k ≠ pd ∧ ¬ S k
  out : App X w 5 1 Ao D.out.length co (bvs D.out)
  low : ∀ k, X k → k < w.heap.size
  xp : X pd
  xs : ∀ k, S k → X k
  ps : ¬ S pd
  ro : ∀ k, M.blk Ao = some k → X k ∧ ¬ S k ∧ k ≠ pd
  ok : D.t.Ok
  cap : D.t.cap ≤ 4096
  lim : D.lim ≤ 4096
  nb : D.t.n ≤ 1152921504606846976
  rl : r.length ≤ 1099511627776
  tl : D.told ≤ 1152921504606846976
  ol : D.out.length ≤ 1099511627776
section
variable {X S S2 N : Nat → Prop} {w w' : World} {pd g cr co : Nat} {Ar Ao A' : Option Addr} {r r2 : Bytes} {D : Qd} {T : Tb}
theorem RqM.pg (h : RqM X w pd g S Ar cr r Ao co D) : pd ≠ g := fun e => h.ps (e ▸ h.tab.sg)
theorem RqM.b (h : RqM X w pd g S Ar cr r Ao co D) : RqB w pd g D.lim := ⟨h.blk.cell 0, h.blk.cell 1⟩
theorem RqM.keep (h : RqM X w pd g S Ar cr r Ao co D) (f : Frm N w w') (hN : ∀ k, X k → ¬ N k) (hr : ∀ k, M.blk Ar = some k → r ≠ [] → ¬ N k) : RqM X w' pd g S Ar cr r Ao co D :=
  { h with
    blk := h.blk.keep f (hN _ h.xp)
    tab := h.tab.keep f (fun k hk => hN k (h.xs k hk))
    rest := by
      by_cases e : r = []
      · subst e; exact fun j u hu => by simp [bvs] at hu
      · exact h.rest.keep f (fun k hk => hr k hk e)
    rr := fun k hk e => ⟨Nat.lt_of_lt_of_le (h.rr k hk e).1 f.size, (h.rr k hk e).2⟩
    out := h.out.keep f (fun k hk => hN k (h.ro k hk).1)
    low := fun k hk => Nat.lt_of_lt_of_le (h.low k hk) f.size }
theorem RqM.fresh (h : RqM X w pd g S Ar cr r Ao co D) (f : Frm (New w) w w') : RqM X w' pd g S Ar cr r Ao co D :=
  h.keep f (fun k hk e => by have := h.low k hk; unfold New at e; omega) (fun k hk e2 e => by have := (h.rr k hk e2).1; unfold New at e; omega)
/-- the table is another one -/
theorem RqM.sett (h : RqM X w pd g S Ar cr r Ao co D) (hT : RTabS S2 w' g T) (f : Frm (fun k => k = g ∨ New w k) w w') (hS : ∀ k, S2 k → Own S w k) (ok : T.Ok) (cap : T.cap ≤ 4096) (nb : T.n ≤ 1152921504606846976) : RqM (fun k => X k ∨ S2 k) w' pd g S2 Ar cr r Ao co { D with t := T } := by
  have hg : S g := h.tab.sg
  have hno : ∀ k, k < w.heap.size → ¬ S k → ¬ (k = g ∨ New w k) := fun k hx hs e => by
    rcases e with e | e
    · exact hs (e ▸ hg)
    · unfold New at e; omega
  have hns : ∀ k, k < w.heap.size → ¬ S k → ¬ S2 k := fun k hx hs e => by
    rcases hS k e with q | q
    · exact hs q
    · have q : w.heap.size ≤ k := q; omega
  exact {
    blk := h.blk.keep f (hno _ (h.low _ h.xp) h.ps)
    tab := hT
    rest := by
      by_cases e : r = []
      · subst e; exact fun j u hu => by simp [bvs] at hu
      · exact h.rest.keep f (fun k hk => hno k (h.rr k hk e).1 (h.rr k hk e).2.2)
    rc := h.rc
    rr := fun k hk e => ⟨Nat.lt_of_lt_of_le (h.rr k hk e).1 f.size, (h.rr k hk e).2.1, hns k (h.rr k hk e).1 (h.rr k hk e).2.2⟩
    out := (h.out.keep f (fun k hk => hno k (h.low k (h.ro k hk).1) (h.ro k hk).2.1)).mono (fun k hk => .inl hk)
    low := fun k hk => by
      rcases hk with hk | hk
      · exact Nat.lt_of_lt_of_le (h.low k hk) f.size
      · exact hT.low k hk
    xp := .inl h.xp, xs := fun k hk => .inr hk
    ps := hns _ (h.low _ h.xp) h.ps
    ro := fun k hk => ⟨.inl (h.ro k hk).1, hns k (h.low k (h.ro k hk).1) (h.ro k hk).2.1, (h.ro k hk).2.2⟩
    ok := ok, cap := cap, lim := h.lim, nb := nb, rl := h.rl, tl := h.tl, ol := h.ol }
/-- what waits of instructions is something else -/
theorem RqM.setr (h : RqM X w pd g S Ar cr r Ao co D) {c' : Nat} (hR : Rd w A' (bvs r2)) (hc : r2.length ≤ c') (hA : ∀ k, M.blk A' = some k → r2 ≠ [] → k < w.heap.size ∧ k ≠ pd ∧ ¬ S k) (hl : r2.length ≤ 1099511627776) :
    RqM X (w.setCell ⟨pd, 3, none⟩ (.slice A' r2.length c')) pd g S A' c' r2 Ao co D := by
  have f : Frm (fun k => k = pd) w (w.setCell ⟨pd, 3, none⟩ (.slice A' r2.length c')) := (Frm.refl (fun k => k = pd) w).setCell (p := ⟨pd, 3, none⟩) rfl _
  exact { h with
    blk := by have := h.blk.set_ 3 (.slice A' r2.length c'); simpa using this
    tab := h.tab.keep f (fun k hk e => h.ps (e ▸ hk))
    rest := by
      by_cases e : r2 = []
      · subst e; exact fun j u hu => by simp [bvs] at hu
      · exact hR.keep f (fun k hk => (hA k hk e).2.1)
    rc := hc
    rr := fun k hk e => ⟨Nat.lt_of_lt_of_le (hA k hk e).1 f.size, (hA k hk e).2⟩
    out := h.out.keep f (fun k hk => (h.ro k hk).2.2)
    low := fun k hk => Nat.lt_of_lt_of_le (h.low k hk) f.size
    rl := hl }
/-- what is to be sent is something else -/
theorem RqM.seto (h : RqM X w pd g S Ar cr r Ao co D) {c' : Nat} {o2 : Bytes} (hA : App (fun k => M.blk Ao = some k ∨ New w k) w' 5 1 A' o2.length c' (bvs o2)) (f : Frm (fun k => M.blk Ao = some k ∨ New w k) w w') (hr : ∀ k, M.blk Ar = some k → r = []) (hl : o2.length ≤ 1099511627776) (hlow : ∀ k, M.blk A' = some k → k < w'.heap.size) :
    RqM (fun k => X k ∨ M.blk A' = some k) (w'.setCell ⟨pd, 6, none⟩ (.slice A' o2.length c')) pd g S Ar cr r A' c' { D with out := o2 } := by
  have hx : ∀ k, X k → M.blk Ao ≠ some k → ¬ (M.blk Ao = some k ∨ New w k) := fun k hk hn e => by
    rcases e with e | e
    · exact hn e
    · have := h.low k hk; unfold New at e; omega
  have hA' : ∀ k, M.blk A' = some k → ¬ S k ∧ k ≠ pd := fun k hk => by
    rcases hA.inM k hk with e | e
    · exact (h.ro k e).2
    · have e : w.heap.size ≤ k := e
      exact ⟨fun q => by have := h.low k (h.xs k q); omega, fun q => by have := h.low pd h.xp; omega⟩
  have f2 : Frm (fun k => k = pd) w' (w'.setCell ⟨pd, 6, none⟩ (.slice A' o2.length c')) := (Frm.refl (fun k => k = pd) w').setCell (p := ⟨pd, 6, none⟩) rfl _
  have hb := (h.blk.keep f (hx pd h.xp (fun e => (h.ro pd e).2.2 rfl))).set_ 6 (.slice A' o2.length c')
  exact {
    blk := by simpa using hb
    tab := (h.tab.keep f (fun k hk => hx k (h.xs k hk) (fun e => (h.ro k e).2.1 hk))).keep f2 (fun k hk e => h.ps (e ▸ hk))
    rest := by
      cases Ar with
      | none => exact fun j u hu => by obtain ⟨_, _, e, _⟩ := h.rest j u hu; cases e
      | some a =>
        rw [hr _ rfl]
        exact fun j u hu => by simp [bvs] at hu
    rc := h.rc
    rr := fun k hk e => absurd (hr k hk) e
    out := (hA.tight'.keep f2 (fun k hk e => (hA' k hk).2 e)).mono (fun k hk => .inr hk)
    low := fun k hk => by
      rcases hk with hk | hk
      · exact Nat.lt_of_lt_of_le (Nat.lt_of_lt_of_le (h.low k hk) f.size) f2.size
      · exact Nat.lt_of_lt_of_le (hlow k hk) f2.size
    xp := .inl h.xp, xs := fun k hk => .inl (h.xs k hk), ps := h.ps
    ro := fun k hk => ⟨.inr hk, hA' k hk⟩
    ok := h.ok, cap := h.cap, lim := h.lim, nb := h.nb, rl := h.rl, tl := h.tl, ol := hl }
theorem RqM.settold (h : RqM X w pd g S Ar cr r Ao co D) (n : Nat) (hn : n ≤ 1152921504606846976) : RqM X (w.setCell ⟨pd, 7, none⟩ (.int .u64 (n : Int))) pd g S Ar cr r Ao co { D with told := n } := by
  have f : Frm (fun k => k = pd) w (w.setCell ⟨pd, 7, none⟩ (.int .u64 (n : Int))) := (Frm.refl (fun k => k = pd) w).setCell (p := ⟨pd, 7, none⟩) rfl _
  exact { h with
    blk := by have := h.blk.set_ 7 (.int .u64 (n : Int)); simpa using this
    tab := h.tab.keep f (fun k hk e => h.ps (e ▸ hk))
    rest := by
      by_cases e : r = []
      · subst e; exact fun j u hu => by simp [bvs] at hu
      · exact h.rest.keep f (fun k hk => (h.rr k hk e).2.1)
    rr := fun k hk e => ⟨Nat.lt_of_lt_of_le (h.rr k hk e).1 f.size, (h.rr k hk e).2⟩
    out := h.out.keep f (fun k hk => (h.ro k hk).2.2)
    low := fun k hk => Nat.lt_of_lt_of_le (h.low k hk) f.size
    tl := hn }
end
end Go.Proofs.Ytdgggjeiflllhaa.M
namespace Go.Proofs.Ytdgggjeiflllhaa.M
open Go.ChangeShapes Go.WideShapes Go.ChangeAt Go.RowKit

theorem Right.nil_inv {lim : Nat} {T T2 : Tb} (h : Right lim T [] T2) : T = T2 := by
  cases h with
  | nil => rfl
  | named h _ _ _ _ _ => simp at h
  | lit h _ _ _ _ _ => simp at h
  | size h _ _ _ _ => simp at h
/-- what Feed leaves -/
def RqF (X : Nat → Prop) (w : World) (pd g : Nat) (Ao : Option Addr) (co : Nat) (D : Qd) (w' : World) : Prop :=
  ∃ (X' S' : Nat → Prop) (Ar' : Option Addr) (cr' : Nat), RqM X' w' pd g S' Ar' cr' [] Ao co D ∧ Frm (Own X w) w w' ∧ ∀ k, X' k → Own X w k
set_option maxRecDepth 100000 in
set_option maxHeartbeats 4000000 in
theorem rqfeed_any {X S : Nat → Prop} {w : World} {pd g cr co : Nat} {Ar Ao : Option Addr} {D : Qd} (h : RqM X w pd g S Ar cr [] Ao co D) (b : Bytes) (A : Option Addr) (c : Nat) (hR : Rd w A (bvs b)) (hl : b.length ≤ 1073741824) (hn : D.t.n + b.length ≤ 1152921504606846976) {T2 : Tb} (hr : Right D.lim D.t b T2) :
    Calls Try.prog 15 #[.pointer (some ⟨pd, 0, none⟩), .slice A b.length c] w fun e w' => e = .returned (.int .i64 0) ∧ RqF X w pd g Ao co { D with t := T2 } w' := by
  have hb := h.blk
  simp only [List.length_nil] at hb
  have hy3 := hb.cell 3
  have hy4 := hb.cell 4
  simp only [List.getElem?_toArray, List.getElem?_cons_zero, List.getElem?_cons_succ] at hy3 hy4
  have hz3 := hb.frozen 3
  have hpl := hb.lt
  have hlim := h.lim
  have hS0 : w.drew.cell? ⟨pd, 3, none⟩ = some (.slice Ar 0 cr) ∧ pd < w.drew.heap.size := ⟨hy3, hpl⟩
  have happ : App (fun k => M.blk Ar = some k ∨ New w k) w 5 1 Ar 0 0 [] := ⟨by simp, Nat.le_refl _, Nat.zero_le _, fun _ => rfl, fun j u hu => by simp at hu, fun k hk => .inl hk, fun h0 => absurd h0 (Nat.lt_irrefl _)⟩
  have H := Lib.hid h
  have HR := Lib.hid hR
  have HRT := Lib.hid hr
  have HB := Lib.hid hb
  have HAPP := Lib.hid happ
  clear h hR hr hb happ
  go_enter Try.func15, Try.ntmps15
  go_upto_region 3 with (fail)
  refine wp_region_til (by kernel_rfl) (fun w' => w'.cell? ⟨pd, 3, none⟩ = some (.slice Ar 0 cr) ∧ pd < w'.heap.size) 20 ?_
  change wpAnyT _ _ _ _ _ _ _ _ _ w.drew
  refine wpAnyT_take (i := 0) (v := ?_) (d := some 11) rfl (by rfl) (by kernel_rfl) (fun _ _ _ h => h) (by rfl) hS0 (fun w hSw => ?_) ?_
  rotate_left
  · (try dsimp only at hSw); go_simp; first | done | (with_reducible rfl)
  simp only [Act.put, List.setIfInBounds_toArray, List.set_cons_zero, List.set_cons_succ]
  refine wpAnyT_take (i := 1) (v := ?_) (d := some 12) rfl (by rfl) (by kernel_rfl) (fun _ _ _ h => h) (by rfl) hS0 (fun w hSw => ?_) ?_
  rotate_left
  · (try dsimp only at hSw); go_simp; first | done | (with_reducible rfl)
  simp only [Act.put, List.setIfInBounds_toArray, List.set_cons_zero, List.set_cons_succ]
  refine wpAnyT_take (i := 2) (v := ?_) (d := some 13) rfl (by rfl) (by kernel_rfl) (fun _ _ _ h => h) (by rfl) hS0 (fun w hSw => ?_) ?_
  rotate_left
  · (try dsimp only at hSw); go_simp; first | done | (with_reducible rfl)
  simp only [Act.put, List.setIfInBounds_toArray, List.set_cons_zero, List.set_cons_succ]
  refine wpAnyT_take (i := 3) (v := ?_) (d := some 14) rfl (by rfl) (by kernel_rfl) (fun _ _ _ h => h) (by rfl) hS0 (fun w hSw => ?_) ?_
  rotate_left
  · (try dsimp only at hSw); go_simp; first | done | (with_reducible rfl)
  simp only [Act.put, List.setIfInBounds_toArray, List.set_cons_zero, List.set_cons_succ]
  refine wpAnyT_take (i := 4) (v := ?_) (d := some 15) rfl (by rfl) (by kernel_rfl) (fun _ _ _ h => h) (by rfl) hS0 (fun w hSw => ?_) ?_
  rotate_left
  · (try dsimp only at hSw); go_simp; first | done | (with_reducible rfl)
  simp only [Act.put, List.setIfInBounds_toArray, List.set_cons_zero, List.set_cons_succ]
  refine wpAnyT_take (i := 5) (v := ?_) (d := some 16) rfl (by rfl) (by kernel_rfl) (fun _ _ _ h => h) (by rfl) hS0 (fun w hSw => ?_) ?_
  rotate_left
  · (try dsimp only at hSw); go_simp; first | done | (with_reducible rfl)
  simp only [Act.put, List.setIfInBounds_toArray, List.set_cons_zero, List.set_cons_succ]
  refine wpAnyT_take (i := 6) (v := ?_) (d := some 17) rfl (by rfl) (by kernel_rfl) (fun _ _ _ h => h) (by rfl) hS0 (fun w hSw => ?_) ?_
  rotate_left
  · (try dsimp only at hSw); go_simp; first | done | (with_reducible rfl)
  simp only [Act.put, List.setIfInBounds_toArray, List.set_cons_zero, List.set_cons_succ]
  refine wpAnyT_take (i := 7) (v := ?_) (d := some 18) rfl (by rfl) (by kernel_rfl) (fun _ _ _ h => h) (by rfl) hS0 (fun w hSw => ?_) ?_
  rotate_left
  · (try dsimp only at hSw); go_simp; first | done | (with_reducible rfl)
  simp only [Act.put, List.setIfInBounds_toArray, List.set_cons_zero, List.set_cons_succ]
  refine wpAnyT_take (i := 8) (v := ?_) (d := some 19) rfl (by rfl) (by kernel_rfl) (fun _ _ _ h => h) (by rfl) hS0 (fun w hSw => ?_) ?_
  rotate_left
  · (try dsimp only at hSw); go_simp; first | done | (with_reducible rfl)
  simp only [Act.put, List.setIfInBounds_toArray, List.set_cons_zero, List.set_cons_succ]
  refine wpAnyT_take (i := 9) (v := ?_) (d := some 20) rfl (by rfl) (by kernel_rfl) (fun _ _ _ h => h) (by rfl) hS0 (fun w hSw => ?_) ?_
  rotate_left
  · (try dsimp only at hSw); go_simp; first | done | (with_reducible rfl)
  simp only [Act.put, List.setIfInBounds_toArray, List.set_cons_zero, List.set_cons_succ]
  refine wpAnyT_take (i := 10) (v := ?_) (d := some 21) rfl (by rfl) (by kernel_rfl) (fun _ _ _ h => h) (by rfl) hS0 (fun w hSw => ?_) ?_
  rotate_left
  · (try dsimp only at hSw); go_simp; first | done | (with_reducible rfl)
  simp only [Act.put, List.setIfInBounds_toArray, List.set_cons_zero, List.set_cons_succ]
  refine wpAnyT_take (i := 11) (v := ?_) (d := some 22) rfl (by rfl) (by kernel_rfl) (fun _ _ _ h => h) (by rfl) hS0 (fun w hSw => ?_) ?_
  rotate_left
  · (try dsimp only at hSw); go_simp; first | done | (with_reducible rfl)
  simp only [Act.put, List.setIfInBounds_toArray, List.set_cons_zero, List.set_cons_succ]
  refine wpAnyT_take (i := 12) (v := ?_) (d := some 23) rfl (by rfl) (by kernel_rfl) (fun _ _ _ h => h) (by rfl) hS0 (fun w hSw => ?_) ?_
  rotate_left
  · (try dsimp only at hSw); go_simp; first | done | (with_reducible rfl)
  simp only [Act.put, List.setIfInBounds_toArray, List.set_cons_zero, List.set_cons_succ]
  refine wpAnyT_take (i := 13) (v := ?_) (d := some 24) rfl (by rfl) (by kernel_rfl) (fun _ _ _ h => h) (by rfl) hS0 (fun w hSw => ?_) ?_
  rotate_left
  · (try dsimp only at hSw); go_simp; first | done | (with_reducible rfl)
  simp only [Act.put, List.setIfInBounds_toArray, List.set_cons_zero, List.set_cons_succ]
  refine wpAnyT_take (i := 14) (v := ?_) (d := some 25) rfl (by rfl) (by kernel_rfl) (fun _ _ _ h => h) (by rfl) hS0 (fun w hSw => ?_) ?_
  rotate_left
  · (try dsimp only at hSw); go_simp; first | done | (with_reducible rfl)
  simp only [Act.put, List.setIfInBounds_toArray, List.set_cons_zero, List.set_cons_succ]
  refine wpAnyT_take (i := 15) (v := .slice Ar 0 0) (d := some 26) rfl (by rfl) (by kernel_rfl) (fun _ _ _ h => h) (by rfl) hS0 (fun w hSw => run_capG u8s rfl rfl rfl rfl rfl rfl (Nat.zero_le _)) ?_
  simp only [Act.put, List.setIfInBounds_toArray, List.set_cons_zero, List.set_cons_succ]
  refine wpAnyT_take (i := 16) (v := ?_) (d := some 27) rfl (by rfl) (by kernel_rfl) (fun _ _ _ h => h) (by rfl) hS0 (fun w hSw => ?_) ?_
  rotate_left
  · (try dsimp only at hSw); go_simp; first | done | (with_reducible rfl)
  simp only [Act.put, List.setIfInBounds_toArray, List.set_cons_zero, List.set_cons_succ]
  refine wpAnyT_one (i := 17) rfl (by kernel_rfl) (fun K hKK => ?_)
  refine step_append2 u8s rfl rfl rfl HAPP.out.drew (fun k hk => .inr hk) rfl (HR.out.drew) (by rw [bvs_length, Nat.mul_one]) (bvs_one _) (by omega) ?_
  intro A9 c9 w9 hA9 _ hb9 hW9
  rw [Nat.zero_add, List.nil_append] at hA9
  have hF9 : Frm (New w) w w9 := Frm.trans ((Frm.refl _ w).drew) (hW9.mono (fun k hk => by
    rcases hk with e | e
    · exact e
    · omega))
  have hA9n : ∀ k, M.blk A9 = some k → b ≠ [] → k = w.heap.size := fun k hk hne => by
    have := List.length_pos_iff.2 hne
    have := hA9.cap
    rcases hb9 with e | e
    · omega
    · rw [e.1] at hk; cases hk; rfl
  have hA9l : ∀ k, M.blk A9 = some k → b ≠ [] → k < w9.heap.size := fun k hk hne => app_lt hA9 (by cases b with | nil => exact absurd rfl hne | cons x t => simp [bvs]) k hk
  clear hb9 hW9
  rw [Nat.zero_add]
  have hbz9 := HB.out.fresh hF9
  clear hy3 hpl hz3 hy4
  have hy3 := hbz9.cell 3
  simp only [List.getElem?_toArray, List.getElem?_cons_zero, List.getElem?_cons_succ] at hy3
  have hpel := hbz9.lt
  have hz3 := hbz9.frozen 3
  have hS9 : w9.cell? ⟨pd, 3, none⟩ = some (.slice Ar 0 cr) ∧ pd < w9.heap.size := ⟨hy3, hpel⟩
  have hpd : pd < w.heap.size := H.out.blk.lt
  have h9 := (H.out.fresh hF9).setr (r2 := b) (c' := c9) hA9.rd hA9.cap (fun k hk hne => ⟨hA9l k hk hne, by have := hA9n k hk hne; omega, fun e => by have := H.out.low k (H.out.xs k e); have := hA9n k hk hne; omega⟩) (by omega)
  have hF10 : Frm (Own X w) w (w9.setCell ⟨pd, 3, none⟩ (.slice A9 b.length c9)) := (hF9.mono (fun k hk => .inr hk)).setCell (p := ⟨pd, 3, none⟩) (.inl H.out.xp) _
  have HF9 := Lib.hid hF9
  have H9 := Lib.hid h9
  have HF10 := Lib.hid hF10
  have HBZ9 := Lib.hid hbz9
  clear hF9 h9 hF10 hbz9
  clear hA9 hA9n hA9l
  refine hKK.out _ _ (.inr hS9) ?_
  clear hKK K hS0
  refine wpAnyT_one (i := 18) rfl (by kernel_rfl) (fun K hK => ?_)
  go_simp
  refine hK.out _ _ (.inr (hS9)) ?_
  clear hK K
  refine wpAnyT_one (i := 19) rfl (by kernel_rfl) (fun K hK => ?_)
  go_simp
  refine hK.out _ _ (.inr (hS9)) ?_
  clear hK K
  refine wpAnyT_one (i := 20) rfl (by kernel_rfl) (fun K hK => ?_)
  go_simp
  refine hK.out _ _ (.inl (by kernel_rfl)) ?_
  clear hK K
  refine wpAnyT_done (by kernel_rfl) ?_ _
  clear hy3 hpel hz3 hS9 HBZ9 HB HAPP HF9
  generalize w9.setCell ⟨pd, 3, none⟩ (.slice A9 b.length c9) = w10 at *
  go_wp2_with (fail)
  go_loopg [] b.length (fun kk wx => ∃ (r : Bytes) (T : Tb) (X1 S1 : Nat → Prop) (A1 : Option Addr) (c1 : Nat), r.length ≤ kk ∧ T.n + r.length ≤ 1152921504606846976 ∧ Hid (RqM X1 wx pd g S1 A1 c1 r Ao co { D with t := T }) ∧ Hid (Right D.lim T r T2) ∧ Hid (Frm (Own X w) w wx) ∧ Hid (∀ k, X1 k → Own X w k))
  case atStart => exact ⟨b, D.t, X, S, A9, c9, Nat.le_refl _, hn, H9, HRT, HF10, Lib.hid (fun k hk => .inl hk)⟩
  case round =>
    clear H9 HF10
    obtain ⟨r, T, X1, S1, A1, c1, hrk, hnb, hRq, hrt, hF, hsub⟩ := hrel
    rename World => wx
    have hbx := hRq.out.blk
    have hy3 := hbx.cell 3
    simp only [List.getElem?_toArray, List.getElem?_cons_zero, List.getElem?_cons_succ] at hy3
    have hpl := hbx.lt
    by_cases hne : r = []
    · subst hne
      obtain rfl : T = T2 := hrt.out.nil_inv
      simp only [List.length_nil] at hy3
      clear hrk hrt
      have HBX := Lib.hid hbx
      have HRQ := Lib.hid hRq
      have HFX := Lib.hid hF
      have HSUB := Lib.hid hsub
      clear hbx hRq hF hsub
      go_wp2
      go_ret
      exact ⟨rfl, X1, S1, A1, c1, HRQ.out.out, HFX.out.out, HSUB.out.out⟩
    · have hr0 : 0 < r.length := List.length_pos_iff.2 hne
      have hr0i : (0 : Int) < (r.length : Int) := by omega
      obtain ⟨T1, k, hr1, hk1, hk2, hok1, hc1, hn1, hone⟩ := hrt.out.one hne hRq.out.ok hRq.out.cap hlim hRq.out.rl hnb
      have hcall := hone A1 c1 wx hRq.out.rest hRq.out.rc hRq.out.b hRq.out.tab hRq.out.pg
      clear hone hrt
      have HBX := Lib.hid hbx
      have HR1 := Lib.hid hr1
      have HOK1 := Lib.hid hok1
      have HC1 := Lib.hid hc1
      have HCALL := Lib.hid hcall
      clear hbx hr1 hok1 hc1 hcall
      go_wp2_with (fail)
      refine HCALL.out.mono ?_
      rintro e w1 ⟨rfl, S2, hT2, hF2, hS2⟩
      have h1 := hRq.out.sett hT2 hF2 hS2 HOK1.out HC1.out (by show T1.n ≤ _; omega)
      clear hy3 hpl HBX
      have hb1 := h1.blk
      have hy3 := hb1.cell 3
      simp only [List.getElem?_toArray, List.getElem?_cons_zero, List.getElem?_cons_succ] at hy3
      have hpl := hb1.lt
      have hz3 := hb1.frozen 3
      have hF1 : Frm (Own X w) w w1 := hF.out.trans (hF2.mono (fun q hq => by
        rcases hq with hq | hq
        · exact hsub.out q (hRq.out.xs q (hq ▸ hRq.out.tab.sg))
        · exact .inr (Nat.le_trans hF.out.size hq)))
      have hsub1 : ∀ q, X1 q ∨ S2 q → Own X w q := fun q hq => by
        rcases hq with hq | hq
        · exact hsub.out q hq
        · rcases hS2 q hq with e | e
          · exact hsub.out q (hRq.out.xs q e)
          · exact .inr (Nat.le_trans hF.out.size e)
      obtain ⟨A2, hA2, hR2⟩ := h1.rest.from_ h1.rc k
      have hblk2 : M.blk A2 = M.blk A1 := by rw [← hA2]; have := cut_blk (A := A1) (c := c1) (i := k) (k := k); simpa using this
      have hln : (r.drop k).length = r.length - k := List.length_drop
      have h2 := h1.setr (A' := A2) (r2 := r.drop k) (c' := c1 - k) hR2 (by rw [hln]; have := h1.rc; omega) (fun q hq hq2 => h1.rr q (hblk2 ▸ hq) hne) (by rw [hln]; have := h1.rl; omega)
      have hF3 := hF1.setCell (p := ⟨pd, 3, none⟩) (hsub.out pd hRq.out.xp) (.slice A2 (r.drop k).length (c1 - k))
      rw [hln] at h2 hF3
      obtain ⟨n2, hn2⟩ : ∃ n2, n2 = r.length - k := ⟨_, rfl⟩
      obtain ⟨c2, hc2⟩ : ∃ c2, c2 = c1 - k := ⟨_, rfl⟩
      rw [← hn2, ← hc2] at h2 hF3
      have hcut : ∀ (o : Oper) (a : Act) (w' : World) (x lo : Operand) (u : Int), o.op = .slice 23 x (some lo) none none → a.eval x = .slice A1 r.length c1 → a.eval lo = .int .i64 u → u = (k : Int) → (execOp a.eval o).run Try.prog w' = .ok (.value (.slice A2 n2 c2)) w' := fun o a w' x lo u q1 q2 q3 q4 => by
        have := run_from (w := w') q1 q2 q3 q4 hk2
        rw [hA2, ← hn2, ← hc2] at this
        exact this
      have hl2 : (r.drop k).length ≤ gk - 1 := by rw [hln]; omega
      clear hRq hF hsub hF2 hS2 hT2 hR2 hA2 hblk2 hF1
      have H1 := Lib.hid h1
      have HB1 := Lib.hid hb1
      have HCUT := Lib.hid hcut
      have H2 := Lib.hid h2
      have HF3 := Lib.hid hF3
      have HSUB1 := Lib.hid hsub1
      have HL2 := Lib.hid hl2
      have HN2 := Lib.hid hn2
      have HC2 := Lib.hid hc2
      have HLN := Lib.hid hln
      clear h1 hb1 hcut h2 hF3 hsub1 hl2 hn2 hc2 hln
      go_wp2_with (refine wpList_val rfl (.slice A2 n2 c2) (HCUT.out _ _ _ _ _ _ rfl rfl rfl rfl) ?_)
      go_roundg (gk - 1)
      case measure => omega
      case rel =>
        refine ⟨r.drop k, T1, fun q => X1 q ∨ S2 q, S2, A2, c2, HL2.out, by rw [HLN.out]; omega, Lib.hid ?_, HR1, HF3, HSUB1⟩
        have := H2.out
        exact this
end Go.Proofs.Ytdgggjeiflllhaa.M
