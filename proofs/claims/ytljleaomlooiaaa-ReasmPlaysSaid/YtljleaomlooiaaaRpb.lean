/- The buffer and the document's, side by side in memory: what each call leaves. No condition but sizes. -/
import Derived.Lib.Hide
import Derived.Test.YtljleaomlooiaaaRpa
namespace Go.Proofs.Ytljleaomlooiaaa.M
open Go.ChangeShapes Go.WideShapes Go.ChangeAt Go.RowKit

structure RP (W w : World) (X : Nat → Prop) (p q : Nat) (B : Bf) (F : Rf) : Prop where
  at_ : ∃ S m, RfAt S w q F m ∧ BSt (fun k => X k ∨ S k) w p B ∧ ∀ k, S k → ¬ X k
  old : ∀ k, k < W.heap.size → X k
  frm : Frm (New W) W w
section
variable {W w w' : World} {X X' : Nat → Prop} {p q : Nat} {B B' : Bf} {F : Rf}
theorem RP.ok (h : RP W w X p q B F) : B.Ok := by
  obtain ⟨S, m, _, h2, _⟩ := h.at_
  exact h2.ok
theorem RP.lo (h : RP W w X p q B F) : ∀ k, X k → k < w.heap.size := by
  obtain ⟨S, m, _, h2, _⟩ := h.at_
  exact fun k hk => h2.lo k (.inl hk)
theorem RP.offX (h : RP W w X p q B F) (f : Frm (fun k => ¬ X k) w w') : Frm (New W) W w' := h.frm.trans (f.mono (fun k hk => Nat.le_of_not_lt (fun c => hk (h.old k c))))
theorem RP.fresh (h : RP W w X p q B F) (f : Frm (New w) w w') : RP W w' X p q B F := by
  obtain ⟨S, m, h1, h2, h3⟩ := h.at_
  exact ⟨⟨S, m, h1.fresh f, h2.fresh f, h3⟩, h.old, h.frm.then_new Up.new f⟩
theorem RP.less (h : RP W w X p q B F) (hX : ∀ k, X' k → X k) (ho : ∀ k, k < W.heap.size → X' k) : RP W w X' p q B F := by
  obtain ⟨S, m, h1, h2, h3⟩ := h.at_
  refine ⟨⟨S, m, h1, h2.less (fun k hk => ?_), fun k hk c => h3 k hk (hX k c)⟩, ho, h.frm⟩
  rcases hk with c | c
  · exact .inl (hX k c)
  · exact .inr c
theorem RP.more (h : RP W w X p q B F) (f : Frm (New w) w w') : RP W w' (fun k => X k ∨ (w.heap.size ≤ k ∧ k < w'.heap.size)) p q B F := by
  obtain ⟨S, m, h1, h2, h3⟩ := h.at_
  refine ⟨⟨S, m, h1.fresh f, h2.more f |>.less (fun k hk => ?_), fun k hk c => ?_⟩, fun k hk => .inl (h.old k hk), h.frm.then_new Up.new f⟩
  · rcases hk with (c | c) | c
    · exact .inl (.inl c)
    · exact .inr c
    · exact .inl (.inr c)
  · rcases c with c | c
    · exact h3 k hk c
    · have := h1.low k hk; omega
/-- a call of the first -/
theorem RP.left {S : Nat → Prop} {m : Nat} (h : RP W w X p q B F) (hr : RfAt S w q F m) (hS : ∀ k, S k → ¬ X k) (hb : BSt (fun k => X k ∨ S k) w' p B') (f : Frm (fun k => ¬ (X k ∨ S k)) w w') : RP W w' X p q B' F ∧ Frm (fun k => ¬ X k) w w' := by
  have f2 : Frm (fun k => ¬ X k) w w' := f.mono (fun k hk c => hk (.inl c))
  exact ⟨⟨⟨S, m, hr.keep f (fun k hk c => c (.inr hk)), hb, hS⟩, h.old, h.offX f2⟩, f2⟩
/-- a call of the second -/
theorem RP.right {S S' : Nat → Prop} {m' : Nat} {F' : Rf} (h : RP W w X p q B F) (hb : BSt (fun k => X k ∨ S k) w p B) (hS : ∀ k, S k → ¬ X k) (hr : RfAt S' w' q F' m') (f : Frm (Own S w) w w') (hS' : ∀ k, S' k → Own S w k) : RP W w' X p q B F' ∧ Frm (fun k => ¬ X k) w w' := by
  have hX : ∀ k, Own S w k → ¬ X k := fun k hk c => by
    rcases hk with hk | hk
    · exact hS k hk c
    · have := hb.lo k (.inl c); omega
  have f2 : Frm (fun k => ¬ X k) w w' := f.mono hX
  obtain ⟨SB, A, c, pv, b1, b2⟩ := hb.at_
  have hB : ∀ k, SB k → ¬ Own S w k := fun k hk c => by
    rcases c with c | c
    · exact b2 k hk (.inr c)
    · have := b1.low k hk; omega
  refine ⟨⟨⟨S', m', hr, ⟨⟨SB, A, c, pv, b1.keep f hB, fun k hk c => ?_⟩, fun k hk => ?_, hb.ok⟩, fun k hk => hX k (hS' k hk)⟩, h.old, h.offX f2⟩, f2⟩
  · rcases c with c | c
    · exact b2 k hk (.inl c)
    · exact hB k hk (hS' k c)
  · rcases hk with c | c
    · exact Nat.lt_of_lt_of_le (hb.lo k (.inl c)) f.size
    · exact hr.low k c
theorem rp_add (off : Nat) (b : Bytes) (f : Bool) {Ab : Option Addr} {cb : Nat} (h : RP W w X p q B F) (hR : Rd w Ab (bvs b)) (hE : b ≠ [] → ∀ k, blk Ab = some k → X k) (hcb : b.length ≤ cb) (hnil : Ab = none → cb = 0)
    (hq : hl B.l + b.length ≤ 1099511627776) (ho : off < 18446744073709551616) :
    Calls Try.prog 9 #[.pointer (some ⟨p, 0, none⟩), .int .u64 off, .slice Ab b.length cb, .bool f] w fun e w' => e = .returned (.int .i64 (B.adds off b f : Nat)) ∧ ∃ B', B.AddTo off b f B' ∧ RP W w' X p q B' F ∧ Frm (fun k => ¬ X k) w w' := by
  obtain ⟨S, m, h1, h2, h3⟩ := h.at_
  refine (badd_anyE off b f h2 hR (fun hn k hk => .inl (hE hn k hk)) hcb hnil hq ho).mono ?_
  rintro e w' ⟨rfl, B', h4, h5, h6⟩
  obtain ⟨r1, r2⟩ := h.left h1 h3 h4 h6
  exact ⟨rfl, B', h5, r1, r2⟩
/-- the new blocks are none of theirs -/
theorem RP.grown {S : Nat → Prop} {m n0 : Nat} {F' : Rf} (h : RP W w X p q B F) (hn : n0 = w.heap.size) (h1 : RfAt S w' q F' m) (l1 : ∀ k, S k → k < n0) (hS : ∀ k, S k → ¬ X k)
    (hB : ∃ SB A c pv, RbAt SB w' p B' A c pv ∧ (∀ k, SB k → ¬ (X k ∨ S k)) ∧ ∀ k, SB k → k < n0) (ok : B'.Ok) (f : Frm (fun k => ¬ X k) w w') : RP W w' (fun k => X k ∨ (n0 ≤ k ∧ k < w'.heap.size)) p q B' F' := by
  obtain ⟨SB, A, c, pv, b1, b2, b3⟩ := hB
  refine ⟨⟨S, m, h1, ⟨⟨SB, A, c, pv, b1, fun k hk c => ?_⟩, fun k hk => ?_, ok⟩, fun k hk c => ?_⟩, fun k hk => .inl (h.old k hk), h.offX f⟩
  · rcases c with (c | c) | c
    · exact b2 k hk (.inl c)
    · have := b3 k hk; omega
    · exact b2 k hk (.inr c)
  · rcases hk with (c | c) | c
    · exact Nat.lt_of_lt_of_le (h.lo k c) f.size
    · exact c.2
    · exact h1.low k c
  · rcases c with c | c
    · exact hS k hk c
    · have := l1 k hk; omega
/-- what a read leaves: its bytes in a block that is kept from now on -/
def RdR (W w : World) (X : Nat → Prop) (p q : Nat) (R : Bytes) (B' : Bf) (F' : Rf) (e : Ending) (w' : World) : Prop :=
  ∃ Ao co X2, e = .returned (.slice Ao R.length co) ∧ Rd w' Ao (bvs R) ∧ (bvs R ≠ [] → ∀ k, blk Ao = some k → X2 k) ∧ (∀ k, X k → X2 k) ∧ RP W w' X2 p q B' F' ∧ Frm (fun k => ¬ X k) w w'
theorem rp_read (n : Int) (R : Bytes) (hR : R = (run B.l B.a).take (B.many n)) (h : RP W w X p q B F) (hn : -9223372036854775808 ≤ n ∧ n ≤ 9223372036854775807) (hq : hl B.l ≤ 1099511627776) :
    Calls Try.prog 10 #[.pointer (some ⟨p, 0, none⟩), .int .i64 n] w (RdR W w X p q R (B.reads (B.many n)) F) := by
  obtain ⟨S, m, h1, h2, h3⟩ := h.at_
  obtain ⟨SB, A, c, pv, b1, b2⟩ := h2.at_
  refine (read_any n w b1 h2.ok hn hq).mono ?_
  rintro e w' ⟨Ao, co, A', c', pv', rfl, ha, b3, f⟩
  have hml : B.many n ≤ (run B.l B.a).length := Nat.min_le_right _ _
  have hRl : R.length = B.many n := by rw [hR, List.length_take]; omega
  have f2 : Frm (fun k => ¬ (X k ∨ S k)) w w' := f.mono (fun k hk c => by
    rcases hk with hk | hk
    · exact b2 k hk c
    · have := h2.lo k c; omega)
  have f3 : Frm (fun k => ¬ X k) w w' := f2.mono (fun k hk c => hk (.inl c))
  have hrd := ha.rd
  rw [← hR] at hrd
  refine ⟨Ao, co, _, by rw [hRl], hrd, fun hne k hk => ?_, fun k hk => .inl hk, h.grown (n0 := w.heap.size) rfl (h1.keep f2 (fun k hk c => c (.inr hk))) (fun k hk => h1.low k hk) h3 ⟨SB, A', c', pv', b3, b2, fun k hk => b1.low k hk⟩ (h2.ok.reads hml) f3, f3⟩
  obtain ⟨g, off, rfl, hg⟩ := hrd.lt hne
  have := ha.inM k hk
  simp only [blk_some, Option.some.injEq] at hk
  subst hk
  exact .inr ⟨this, hg⟩
theorem Rd.offX {w w' : World} {X : Nat → Prop} {A : Option Addr} {xs : List Value} (h : Rd w A xs) (hX : xs ≠ [] → ∀ k, blk A = some k → X k) (f : Frm (fun k => ¬ X k) w w') : Rd w' A xs := by
  by_cases hn : xs = []
  · subst hn; exact Rd.nil
  · exact h.keep f (fun k hk c => c (hX hn k hk))
theorem rp_reset (s : Nat) (h : RP W w X p q B F) : Calls Try.prog 15 #[.pointer (some ⟨p, 0, none⟩), .int .u64 s] w fun e w' => e = .returned (.int .i64 (B.chk s true true : Nat)) ∧ RP W w' X p q (B.reset' s) F ∧ Frm (fun k => ¬ X k) w w' := by
  obtain ⟨S, m, h1, h2, h3⟩ := h.at_
  refine (breset_any s h2).mono ?_
  rintro e w' ⟨rfl, h4, h6⟩
  exact ⟨rfl, h.left h1 h3 h4 h6⟩
theorem rp_grow (s : Nat) (h : RP W w X p q B F) : Calls Try.prog 14 #[.pointer (some ⟨p, 0, none⟩), .int .u64 s] w fun e w' => e = .returned (.tuple #[]) ∧ RP W w' X p q { B with win := max B.win (min s 4611686018427387903) } F ∧ Frm (fun k => ¬ X k) w w' := by
  obtain ⟨S, m, h1, h2, h3⟩ := h.at_
  refine (bgrow_any s h2).mono ?_
  rintro e w' ⟨rfl, h4, h6⟩
  exact ⟨rfl, h.left h1 h3 h4 h6⟩
theorem rp_done (h : RP W w X p q B F) : Calls Try.prog 11 #[.pointer (some ⟨p, 0, none⟩)] w fun e w' => e = .returned (.bool B.over) ∧ Frm (New w) w w' := by
  obtain ⟨S, m, h1, h2, h3⟩ := h.at_
  refine (bdone_any h2).mono ?_
  rintro e w' ⟨rfl, h4, h6⟩
  exact ⟨rfl, h6⟩
theorem rp_held (h : RP W w X p q B F) : Calls Try.prog 12 #[.pointer (some ⟨p, 0, none⟩)] w fun e w' => e = .returned (.int .i64 (hl B.l)) ∧ Frm (New w) w w' := by
  obtain ⟨S, m, h1, h2, h3⟩ := h.at_
  refine (bheld_any h2).mono ?_
  rintro e w' ⟨rfl, h4, h6⟩
  exact ⟨rfl, h6⟩
theorem rp_top (h : RP W w X p q B F) : Calls Try.prog 13 #[.pointer (some ⟨p, 0, none⟩)] w fun e w' => e = .returned (.int .u64 B.top) ∧ w' = w := by
  obtain ⟨S, m, h1, h2, h3⟩ := h.at_
  exact btop_any h2
theorem rp_radd (off : Nat) (b : Bytes) (f : Bool) {Ab : Option Addr} {cb : Nat} (h : RP W w X p q B F) (hR : Rd w Ab (bvs b)) (hE : b ≠ [] → ∀ k, blk Ab = some k → X k) (hlb : b.length ≤ 1099511627776) (ho : off < 18446744073709551616) (hmx : F.mx ≤ 4611686018427387903) :
    Calls Try.prog 20 #[.pointer (some ⟨q, 0, none⟩), .int .u64 off, .slice Ab b.length cb, .bool f] w fun e w' => e = .returned (.int .i64 (F.adds off b f : Nat)) ∧ RP W w' X p q B (F.add' off b f) ∧ Frm (fun k => ¬ X k) w w' := by
  obtain ⟨S, m, h1, h2, h3⟩ := h.at_
  refine (radd_any (cb := cb) off b f w h1 ⟨hR, fun hn k hk => have hb : b ≠ [] := fun e => hn (by rw [e]; rfl); ⟨fun c => h3 k c (hE hb k hk), h2.lo k (.inl (hE hb k hk))⟩⟩ hlb ho hmx).mono ?_
  rintro e w' ⟨rfl, h4, h6⟩
  exact ⟨rfl, h.right h2 h3 h4 h6 (fun k hk => .inl hk)⟩
theorem rp_rread (n : Int) (R : Bytes) (hR : (rread n.toNat F.a F.es).1 = bvs R) (h : RP W w X p q B F) (hv : ∀ q ∈ F.es, (∃ x, q.2 = bv x) ∧ q.1 < 4611686018427387904) (hn : -9223372036854775808 ≤ n ∧ n ≤ 9223372036854775807) (hq : F.es.length ≤ 1099511627776) :
    Calls Try.prog 17 #[.pointer (some ⟨q, 0, none⟩), .int .i64 n] w (RdR W w X p q R B (F.reads n.toNat)) := by
  obtain ⟨S, m, h1, h2, h3⟩ := h.at_
  obtain ⟨SB, A, c, pv, b1, b2⟩ := h2.at_
  refine (rread_any n w h1 hv hn hq).mono ?_
  rintro e w' ⟨Ao, co, rfl, ha, h4, f⟩
  have hB : ∀ k, SB k → ¬ Own S w k := fun k hk c => by
    rcases c with c | c
    · exact b2 k hk (.inr c)
    · have := b1.low k hk; omega
  have f3 : Frm (fun k => ¬ X k) w w' := f.mono (fun k hk c => by
    rcases hk with hk | hk
    · exact h3 k hk c
    · have := h2.lo k (.inl c); omega)
  have hrd := ha.rd
  rw [hR] at hrd
  refine ⟨Ao, co, _, by rw [hR, bvs_length], hrd, fun hne k hk => ?_, fun k hk => .inl hk, h.grown (n0 := w.heap.size) rfl h4 (fun k hk => h1.low k hk) h3 ⟨SB, A, c, pv, b1.keep f hB, b2, fun k hk => b1.low k hk⟩ h2.ok f3, f3⟩
  obtain ⟨g, off, rfl, hg⟩ := hrd.lt hne
  have := ha.inM k hk
  simp only [blk_some, Option.some.injEq] at hk
  subst hk
  exact .inr ⟨this, hg⟩
theorem rp_rreset (s : Nat) (h : RP W w X p q B F) : Calls Try.prog 18 #[.pointer (some ⟨q, 0, none⟩), .int .u64 s] w fun e w' => e = .returned (.int .i64 (F.chk s false true : Nat)) ∧ RP W w' X p q B (F.reset' s) ∧ Frm (fun k => ¬ X k) w w' := by
  obtain ⟨S, m, h1, h2, h3⟩ := h.at_
  refine (rreset_any s w h1).mono ?_
  rintro e w' ⟨rfl, S', m', h4, h6, h7⟩
  exact ⟨rfl, h.right h2 h3 h4 h6 h7⟩
theorem rp_rgrow (s : Nat) (h : RP W w X p q B F) : Calls Try.prog 19 #[.pointer (some ⟨q, 0, none⟩), .int .u64 s] w fun e w' => e = .returned (.tuple #[]) ∧ RP W w' X p q B { F with mx := max F.mx (min s 4611686018427387903) } ∧ Frm (fun k => ¬ X k) w w' := by
  obtain ⟨S, m, h1, h2, h3⟩ := h.at_
  refine (rgrow_any F s q m w h1.blk).mono ?_
  rintro e w' ⟨rfl, h4, h6⟩
  exact ⟨rfl, h.right h2 h3 (h1.head h4 rfl h6) (h6.mono (fun k hk => .inl (by rw [hk]; exact h1.sq))) (fun k hk => .inl hk)⟩
theorem rp_rdone (h : RP W w X p q B F) : Calls Try.prog 21 #[.pointer (some ⟨q, 0, none⟩)] w fun e w' => e = .returned (.bool F.done) ∧ Frm (New w) w w' := by
  obtain ⟨S, m, h1, h2, h3⟩ := h.at_
  refine (rdone_any F q m w h1.blk).mono ?_
  rintro e w' ⟨rfl, k, rfl⟩
  exact ⟨rfl, (Frm.refl _ _).drewN k⟩
theorem rp_rtop (h : RP W w X p q B F) : Calls Try.prog 22 #[.pointer (some ⟨q, 0, none⟩)] w fun e w' => e = .returned (.int .u64 F.top) ∧ w' = w := by
  obtain ⟨S, m, h1, h2, h3⟩ := h.at_
  exact rtop_any F q m w h1.blk
/-- the map's cell, and how many it holds -/
theorem RP.map (h : RP W w X p q B F) : ∃ m es ck, w.cell? ⟨q, 1, none⟩ = some (.map (some m)) ∧ w.heap[m]? = some (.map es ck) ∧ es.size = F.es.length ∧ q < w.heap.size ∧ m < w.heap.size := by
  obtain ⟨S, m, h1, h2, h3⟩ := h.at_
  have hm := h1.map.lt
  obtain ⟨es, ck, hb, _, he⟩ := h1.map
  exact ⟨m, es, ck, h1.blk.cell 1, hb, by have := congrArg List.length he; simpa using this, h1.blk.lt, hm⟩
end
theorem rp_new (win : Nat) (W w : World) (hW : Frm (New W) W w) (p : Nat) (h : BSt (fun k => k < W.heap.size) w p ⟨[], 0, 0, min win 4611686018427387903, 0, false, false⟩) :
    Calls Try.prog 16 #[.int .u64 win] w fun e w' => ∃ q, e = .returned (.pointer (some ⟨q, 0, none⟩)) ∧ RP W w' (fun k => k < W.heap.size) p q ⟨[], 0, 0, min win 4611686018427387903, 0, false, false⟩ ⟨min win 4611686018427387903, [], 0, 0, 0, false, false⟩ := by
  refine (rnew_any win w).mono ?_
  rintro e w' ⟨rfl, rfl⟩
  obtain ⟨h1, f⟩ := rnew_at win w
  have h2 := h.more f
  refine ⟨_, rfl, ⟨⟨_, _, h1, h2.less (fun k hk => ?_), fun k hk c => ?_⟩, fun k hk => hk, hW.then_new Up.new f⟩⟩
  · rcases hk with c | c
    · exact .inl c
    · right
      have : (((w.alloc (.map #[] 0)).alloc (.cells (Rf.cells ⟨min win 4611686018427387903, [], 0, 0, 0, false, false⟩ w.heap.size) 48)).heap.size = w.heap.size + 2) := by simp
      rw [this]
      omega
  · have := hW.size
    omega
end Go.Proofs.Ytljleaomlooiaaa.M
