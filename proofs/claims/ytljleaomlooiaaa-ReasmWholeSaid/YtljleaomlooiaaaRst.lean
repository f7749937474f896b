/- A buffer that keeps off some blocks; what the calls make of it. No condition but sizes. -/
import Derived.BigQuiet
import Derived.Lib.Hide
import Derived.Test.YtljleaomlooiaaaRre
import Derived.Test.YtljleaomlooiaaaRhe
import Derived.Test.YtljleaomlooiaaaStr
namespace Go.Proofs.Ytljleaomlooiaaa.M
open Go.ChangeShapes Go.WideShapes Go.ChangeAt Go.RowKit

/-- a buffer in memory, none of its blocks in E -/
structure BSt (E : Nat → Prop) (w : World) (p : Nat) (B : Bf) : Prop where
  at_ : ∃ S A c pv, RbAt S w p B A c pv ∧ ∀ k, S k → ¬ E k
  lo : ∀ k, E k → k < w.heap.size
  ok : B.Ok
section
variable {E E' : Nat → Prop} {w w' : World} {p : Nat} {B B' : Bf}
theorem off_own {S : Nat → Prop} (hS : ∀ k, S k → ¬ E k) (hlo : ∀ k, E k → k < w.heap.size) : ∀ k, Own S w k → ¬ E k := fun k hk c => by
  rcases hk with h | h
  · exact hS k h c
  · have := hlo k c; omega
theorem BSt.keep {M : Nat → Prop} (h : BSt E w p B) (f : Frm M w w') (hM : ∀ k, M k → w.heap.size ≤ k) : BSt E w' p B := by
  obtain ⟨S, A, c, pv, h1, h2⟩ := h.at_
  exact ⟨⟨S, A, c, pv, h1.fresh (f.mono (fun k hk => hM k hk)), h2⟩, fun k hk => Nat.lt_of_lt_of_le (h.lo k hk) f.size, h.ok⟩
theorem BSt.fresh (h : BSt E w p B) (f : Frm (New w) w w') : BSt E w' p B := h.keep f (fun _ hk => hk)
/-- a new block is none of its own -/
theorem BSt.more (h : BSt E w p B) (f : Frm (New w) w w') : BSt (fun k => E k ∨ (w.heap.size ≤ k ∧ k < w'.heap.size)) w' p B := by
  obtain ⟨S, A, c, pv, h1, h2⟩ := h.at_
  refine ⟨⟨S, A, c, pv, h1.fresh f, fun k hk c => ?_⟩, fun k hk => ?_, h.ok⟩
  · rcases c with c | c
    · exact h2 k hk c
    · have := h1.low k hk; omega
  · rcases hk with hk | hk
    · exact Nat.lt_of_lt_of_le (h.lo k hk) f.size
    · exact hk.2
theorem BSt.less (h : BSt E w p B) (hE : ∀ k, E' k → E k) : BSt E' w p B := by
  obtain ⟨S, A, c, pv, h1, h2⟩ := h.at_
  exact ⟨⟨S, A, c, pv, h1, fun k hk c => h2 k hk (hE k c)⟩, fun k hk => h.lo k (hE k hk), h.ok⟩
theorem new_ok (win : Nat) : Bf.Ok ⟨[], 0, 0, min win 4611686018427387903, 0, false, false⟩ :=
  ⟨trivial, (fun P hP => by cases hP), Nat.le_refl _, Nat.zero_le _, Nat.min_le_right _ _, (fun h => by cases h), (fun h => by cases h)⟩
theorem bnew_any (E : Nat → Prop) (win : Nat) (w : World) (lo : ∀ k, E k → k < w.heap.size) : Calls Try.prog 8 #[.int .u64 win] w fun e w' =>
    e = .returned (.pointer (some ⟨w.heap.size, 0, none⟩)) ∧ BSt E w' w.heap.size ⟨[], 0, 0, min win 4611686018427387903, 0, false, false⟩ ∧ Frm (New w) w w' := by
  refine (new_any win w).mono ?_
  rintro e w' ⟨rfl, rfl⟩
  have f := (Frm.refl (New w) w).alloc Up.new (.cells (Bf.cells ⟨[], 0, 0, min win 4611686018427387903, 0, false, false⟩ none 0 0) 52)
  refine ⟨rfl, ⟨⟨fun k => k = w.heap.size, none, 0, [], ⟨Blk.new w _ _, App.none_, trivial, rfl, fun k hk => by rw [hk]; simp⟩, fun k hk c => ?_⟩, fun k hk => Nat.lt_of_lt_of_le (lo k hk) f.size, new_ok win⟩, f⟩
  have := lo k c
  omega
theorem badd_anyE (off : Nat) (b : Bytes) (f : Bool) {Ab : Option Addr} {cb : Nat} (h : BSt E w p B) (hR : Rd w Ab (bvs b)) (hE : b ≠ [] → ∀ k, M.blk Ab = some k → E k) (hcb : b.length ≤ cb) (hnil : Ab = none → cb = 0)
    (hq : hl B.l + b.length ≤ 1099511627776) (ho : off < 18446744073709551616) :
    Calls Try.prog 9 #[.pointer (some ⟨p, 0, none⟩), .int .u64 off, .slice Ab b.length cb, .bool f] w fun e w' => e = .returned (.int .i64 (B.adds off b f : Nat)) ∧ ∃ B', BSt E w' p B' ∧ B.AddTo off b f B' ∧ Frm (fun k => ¬ E k) w w' := by
  obtain ⟨S, A, c, pv, h1, h2⟩ := h.at_
  refine (add_any off b f w h1 h.ok ⟨hR, fun hn k hk => have hb : b ≠ [] := fun e => hn (by rw [e]; rfl); ⟨fun c => h2 k c (hE hb k hk), h.lo k (hE hb k hk)⟩⟩ hcb hnil hq ho).mono ?_
  rintro e w' ⟨rfl, S', A', c', pv', B', h3, h4, h5, h6⟩
  exact ⟨rfl, B', ⟨⟨S', A', c', pv', h3, fun k hk => off_own h2 h.lo k (h6 k hk)⟩, fun k hk => Nat.lt_of_lt_of_le (h.lo k hk) h5.size, AddTo.ok ho (by omega) h.ok h4⟩, h4, h5.mono (off_own h2 h.lo)⟩
theorem badd_any (off : Nat) (b : Bytes) (f : Bool) {Ab : Option Addr} {cb : Nat} (h : BSt E w p B) (hR : Rd w Ab (bvs b)) (hE : ∀ k, M.blk Ab = some k → E k) (hcb : b.length ≤ cb) (hnil : Ab = none → cb = 0)
    (hq : hl B.l + b.length ≤ 1099511627776) (ho : off < 18446744073709551616) :
    Calls Try.prog 9 #[.pointer (some ⟨p, 0, none⟩), .int .u64 off, .slice Ab b.length cb, .bool f] w fun e w' => e = .returned (.int .i64 (B.adds off b f : Nat)) ∧ ∃ B', BSt E w' p B' ∧ B.AddTo off b f B' ∧ Frm (fun k => ¬ E k) w w' :=
  badd_anyE off b f h hR (fun _ => hE) hcb hnil hq ho
theorem bread_any (n : Int) (h : BSt E w p B) (hn : -9223372036854775808 ≤ n ∧ n ≤ 9223372036854775807) (hq : hl B.l ≤ 1099511627776) :
    Calls Try.prog 10 #[.pointer (some ⟨p, 0, none⟩), .int .i64 n] w fun e w' => ∃ Ao co, e = .returned (.slice Ao (B.many n) co) ∧ App (New w) w' 5 1 Ao (B.many n) co (bvs ((run B.l B.a).take (B.many n))) ∧ BSt E w' p (B.reads (B.many n)) ∧ Frm (fun k => ¬ E k) w w' := by
  obtain ⟨S, A, c, pv, h1, h2⟩ := h.at_
  refine (read_any n w h1 h.ok hn hq).mono ?_
  rintro e w' ⟨Ao, co, A', c', pv', rfl, h3, h4, h5⟩
  exact ⟨Ao, co, rfl, h3, ⟨⟨S, A', c', pv', h4, h2⟩, fun k hk => Nat.lt_of_lt_of_le (h.lo k hk) h5.size, h.ok.reads (Nat.min_le_right _ _)⟩, h5.mono (off_own h2 h.lo)⟩
theorem Bf.Ok.reset {B : Bf} (h : B.Ok) (stop : Nat) : (B.reset' stop).Ok := by
  unfold Bf.reset'
  split
  · rename_i hc
    obtain ⟨_, c2, c3, c4⟩ := chk_zero hc
    have h1 := c4 rfl
    have hm : max B.top stop = stop := by omega
    refine ⟨trivial, fun P hP => (by cases hP), ?_, ?_, h.win, fun _ => ?_, fun _ => ⟨rfl, rfl⟩⟩
    · simp only; have := h.at_; omega
    · simp only; omega
    · simp only; omega
  · exact h
theorem breset_any (stop : Nat) (h : BSt E w p B) : Calls Try.prog 15 #[.pointer (some ⟨p, 0, none⟩), .int .u64 stop] w fun e w' =>
    e = .returned (.int .i64 (B.chk stop true true : Nat)) ∧ BSt E w' p (B.reset' stop) ∧ Frm (fun k => ¬ E k) w w' := by
  obtain ⟨S, A, c, pv, h1, h2⟩ := h.at_
  refine (reset_any B stop p A pv.length c w h1.blk).mono ?_
  rintro e w' ⟨rfl, h3⟩
  by_cases hc : B.chk stop true true = 0
  · rw [if_pos hc] at h3
    obtain ⟨h3, h4⟩ := h3
    have hl : (B.reset' stop).l = [] := by unfold Bf.reset'; rw [if_pos hc]
    refine ⟨rfl, ⟨⟨S, none, 0, [], ⟨h3, App.none_, by rw [hl]; trivial, h1.sp, fun k hk => Nat.lt_of_lt_of_le (h1.low k hk) h4.size⟩, h2⟩, fun k hk => Nat.lt_of_lt_of_le (h.lo k hk) h4.size, h.ok.reset stop⟩, h4.mono (fun k hk => by rw [hk]; exact h2 p h1.sp)⟩
  · rw [if_neg hc] at h3
    subst h3
    have e : B.reset' stop = B := by unfold Bf.reset'; rw [if_neg hc]
    rw [e]
    exact ⟨rfl, h, Frm.refl _ _⟩
theorem bgrow_any (most : Nat) (h : BSt E w p B) : Calls Try.prog 14 #[.pointer (some ⟨p, 0, none⟩), .int .u64 most] w fun e w' =>
    e = .returned (.tuple #[]) ∧ BSt E w' p { B with win := max B.win (min most 4611686018427387903) } ∧ Frm (fun k => ¬ E k) w w' := by
  obtain ⟨S, A, c, pv, h1, h2⟩ := h.at_
  refine (grow_any B most p A pv.length c w h1.blk).mono ?_
  rintro e w' ⟨rfl, h3, h4⟩
  refine ⟨rfl, ⟨⟨S, A, c, pv, h1.head h3 rfl h4, h2⟩, fun k hk => Nat.lt_of_lt_of_le (h.lo k hk) h4.size, ⟨h.ok.srt, h.ok.stop, h.ok.at_, ?_, ?_, h.ok.fin, h.ok.gone⟩⟩, h4.mono (fun k hk => by rw [hk]; exact h2 p h1.sp)⟩
  · have := h.ok.top; simp only; omega
  · have := h.ok.win; simp only; omega
theorem bdone_any (h : BSt E w p B) : Calls Try.prog 11 #[.pointer (some ⟨p, 0, none⟩)] w fun e w' => e = .returned (.bool B.over) ∧ BSt E w' p B ∧ Frm (New w) w w' := by
  obtain ⟨S, A, c, pv, h1, h2⟩ := h.at_
  refine (done_any B p A pv.length c w h1.blk).mono ?_
  rintro e w' ⟨rfl, q, rfl⟩
  exact ⟨rfl, h.fresh ((Frm.refl _ _).drewN q), (Frm.refl _ _).drewN q⟩
theorem bheld_any (h : BSt E w p B) : Calls Try.prog 12 #[.pointer (some ⟨p, 0, none⟩)] w fun e w' => e = .returned (.int .i64 (hl B.l)) ∧ BSt E w' p B ∧ Frm (New w) w w' := by
  obtain ⟨S, A, c, pv, h1, h2⟩ := h.at_
  refine (held_any w h1 h.ok).mono ?_
  rintro e w' ⟨rfl, hF⟩
  exact ⟨rfl, h.fresh hF, hF⟩
theorem btop_any (h : BSt E w p B) : Calls Try.prog 13 #[.pointer (some ⟨p, 0, none⟩)] w fun e w' => e = .returned (.int .u64 B.top) ∧ w' = w := by
  obtain ⟨S, A, c, pv, h1, h2⟩ := h.at_
  exact top_any B p A pv.length c w h1.blk
end
/-- two lists of the same, both in order, the one with no place twice -/
theorem sorted_eq : ∀ {l l' : List Pc}, l.Perm l' → l.Pairwise (fun x y => x.off ≤ y.off) → l'.Pairwise (fun x y => x.off < y.off) → l = l'
  | [], l', h, _, _ => (List.nil_perm.1 h).symm
  | x :: r, [], h, _, _ => by have := h.length_eq; simp at this
  | x :: r, y :: s, h, h1, h2 => by
    rw [List.pairwise_cons] at h1 h2
    have hx : x ∈ y :: s := h.mem_iff.1 (by simp)
    have hy : y ∈ x :: r := h.mem_iff.2 (by simp)
    have e : x = y := by
      rcases List.mem_cons.1 hx with e | hx
      · exact e
      · rcases List.mem_cons.1 hy with e | hy
        · exact e.symm
        · have a := h2.1 x hx
          have b := h1.1 y hy
          omega
    subst e
    rw [sorted_eq h.cons_inv h1.2 h2.2]
/-- a literal comes -/
theorem badd_lit {E : Nat → Prop} {w : World} {p : Nat} {B : Bf} (off : Nat) (b : Bytes) (f : Bool) (cs : Array Value) (t : TypeId) (fr : Nat × Nat) (hcs : cs.toList = bvs b) (h : BSt E w p B) (hq : hl B.l + b.length ≤ 1099511627776) (ho : off < 18446744073709551616) :
    Calls Try.prog 9 #[.pointer (some ⟨p, 0, none⟩), .int .u64 off, .slice (some ⟨w.heap.size, 0, none⟩) b.length b.length, .bool f] (w.alloc (.cells cs t fr)) fun e w' => e = .returned (.int .i64 (B.adds off b f : Nat)) ∧ ∃ B', BSt E w' p B' ∧ B.AddTo off b f B' ∧ Frm (fun k => ¬ E k) w w' := by
  have hF : Frm (New w) w (w.alloc (.cells cs t fr)) := (Frm.refl _ w).alloc Up.new _
  have h1 := h.more hF
  have hlo := h.lo
  refine (badd_any off b f h1 (Rd.lit w b cs t fr hcs) (fun k hk => ?_) (Nat.le_refl _) (fun e => by cases e) hq ho).mono ?_
  · simp only [blk_some, Option.some.injEq] at hk
    subst hk
    exact .inr ⟨Nat.le_refl _, by simp⟩
  · rintro e w' ⟨rfl, B', h2, h3, h4⟩
    exact ⟨rfl, B', h2.less (fun k hk => .inl hk), h3, (hF.mono (fun k hk c => by have := hlo k c; unfold New at hk; omega)).trans (h4.mono (fun k hk c => hk (.inl c)))⟩
theorem AddTo.yes {B B' : Bf} {off : Nat} {b : Bytes} {f : Bool} (h : B.AddTo off b f B') (h1 : B.adds off b f = 0) (h2 : B.over = false) : ∃ l', l'.Perm (B.l ++ news off b (off + b.length) B.l (max off B.a)) ∧ l'.Pairwise (fun x y => x.off ≤ y.off) ∧
    B' = ⟨l', B.a, if b = [] ∧ f = false then B.top else max B.top (off + b.length), B.win, if f = true then off + b.length else B.fin, B.known || f, B.reset⟩ := by
  unfold Bf.AddTo at h
  rwa [if_pos ⟨h1, h2⟩] at h
theorem AddTo.no {B B' : Bf} {off : Nat} {b : Bytes} {f : Bool} (h : B.AddTo off b f B') (h1 : ¬ (B.adds off b f = 0 ∧ B.over = false)) : B' = B := by
  unfold Bf.AddTo at h
  rwa [if_neg h1] at h
theorem AddTo.is {B B' : Bf} {off : Nat} {b : Bytes} {f : Bool} (h : B.AddTo off b f B') (B2 : Bf) (h1 : B.adds off b f = 0) (h2 : B.over = false) (hp : (B.l ++ news off b (off + b.length) B.l (max off B.a)).Perm B2.l) (hs : B2.l.Pairwise (fun x y => x.off < y.off))
    (e : (⟨B2.l, B.a, if b = [] ∧ f = false then B.top else max B.top (off + b.length), B.win, if f = true then off + b.length else B.fin, B.known || f, B.reset⟩ : Bf) = B2) : B' = B2 := by
  obtain ⟨l', h3, h4, h5⟩ := AddTo.yes h h1 h2
  rw [h5, ← e]
  congr 1
  exact sorted_eq (h3.trans hp) h4 hs
end Go.Proofs.Ytljleaomlooiaaa.M
