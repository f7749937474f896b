/- Og -/
import Derived.BigQuiet
import Derived.Deep.CutBlock
import Derived.Lib.Hide
import Derived.IntWalk
import Derived.Deep.LoopGhost
import Derived.StillTailTactics
import Derived.Test.YtdgggjeiflllhaaZyOf
import Derived.Test.YtdgggjeiflllhaaZyCap

namespace Go.Proofs.Ytdgggjeiflllhaa.M
open Go.ChangeShapes Go.WideShapes Go.ChangeAt Go.RowKit
def OFeed (X : Nat → Prop) (w : World) (pe g : Nat) (E2 : Qn) (w' : World) : Prop :=
  ∃ (X' S' : Nat → Prop) (Ao' : Option Addr) (co' : Nat) (l' : List Ou) (Ar' : Option Addr) (cr' : Nat), OnM X' w' pe g S' Ao' co' l' Ar' cr' E2 ∧ Frm (Own X w) w w' ∧ ∀ k, X' k → Own X w k
theorem feed_eq (E : Qn) (b : Bytes) (he : E.err = 0) : E.feed b = feedN (E.rest ++ b).length E (E.rest ++ b) := by
  unfold Qn.feed
  rw [if_neg (by rw [he]; simp)]
theorem ackGo_absent {s : Nat} : ∀ l : List Qs, (∀ o ∈ l, o.stream ≠ s) → ackGo s l = none
  | [], _ => rfl
  | o :: r, h => by
    unfold ackGo
    rw [if_neg (h o (List.mem_cons_self ..)), ackGo_absent r (fun x hx => h x (List.mem_cons_of_mem _ hx))]
    rfl
theorem filt_q (p : Qs → Bool) (l : List Ou) : (l.filter (fun y => p y.q)).map (·.q) = (l.map (·.q)).filter p := by
  induction l with
  | nil => rfl
  | cons y r ih =>
    simp only [List.filter_cons, List.map_cons]
    split
    · rw [List.map_cons, ih]
    · exact ih
theorem App.cutN {N : Nat → Prop} {w : World} {e n c i k : Nat} {A : Option Addr} {xs ys : List Value} (h : App N w e k A n c xs) (hi : i ≤ n) (hy : xs.take (i * k) = ys) : App (fun q => M.blk A = some q ∨ New w q) w e k A i i ys := by
  subst hy
  have hc := h.cap
  have hm := h.max
  have hl := h.len
  refine ⟨?_, Nat.le_refl _, by omega, fun hA => by have := h.nil_ hA; omega, h.rd.take _, fun q hq => .inl hq, fun h0 => ?_⟩
  · rw [List.length_take, hl]; exact Nat.min_eq_left (Nat.mul_le_mul_right _ hi)
  · obtain ⟨g, off, cur, h1, h2, h3, h4⟩ := h.own (by omega)
    have : i * k ≤ c * k := Nat.mul_le_mul_right _ (by omega)
    exact ⟨g, off, cur, h1, h2, by omega, .inl (by rw [h1]; rfl)⟩
theorem ocC_take : ∀ (l : List Ou) (i : Nat), (ocC l).take (i * 3) = ocC (l.take i)
  | [], i => by cases i <;> rfl
  | y :: r, 0 => by rw [Nat.zero_mul, List.take_zero]; rfl
  | y :: r, i + 1 => by
    have e : ocC (y :: r) = ouC y ++ ocC r := rfl
    rw [e, List.take_succ_cons, show ocC (y :: r.take i) = ouC y ++ ocC (r.take i) from rfl, ← ocC_take r i, show (i + 1) * 3 = (ouC y).length + i * 3 by show _ = 3 + i * 3; omega, List.take_length_add_append]
theorem ocC_drop : ∀ (l : List Ou) (i : Nat), (ocC l).drop (i * 3) = ocC (l.drop i)
  | [], i => by cases i <;> rfl
  | y :: r, 0 => by rw [Nat.zero_mul, List.drop_zero]; rfl
  | y :: r, i + 1 => by
    have e : ocC (y :: r) = ouC y ++ ocC r := rfl
    rw [e, List.drop_succ_cons, ← ocC_drop r i, show (i + 1) * 3 = (ouC y).length + i * 3 by show _ = 3 + i * 3; omega, List.drop_length_add_append]
theorem ou_one (y : Ou) : ∀ u ∈ (#[Value.int .u64 y.q.stream, .int .u64 y.q.count, .slice y.A y.q.uses.length y.c] : Array Value).toList, u.oneCell' = true := by
  intro u hu
  simp at hu
  rcases hu with rfl | rfl | rfl <;> rfl
theorem ocC_one (l : List Ou) : ∀ u ∈ ocC l, u.oneCell' = true := by
  intro u hu
  obtain ⟨y, _, hy⟩ := List.mem_flatMap.1 hu
  exact ou_one y u (by simpa [ouC] using hy)
theorem ocC_snoc (l : List Ou) (y : Ou) : ocC l ++ (#[Value.int .u64 y.q.stream, .int .u64 y.q.count, .slice y.A y.q.uses.length y.c] : Array Value).toList = ocC (l ++ [y]) := by
  rw [ocC_append]
  rfl
set_option maxRecDepth 100000 in
set_option maxHeartbeats 80000000 in
theorem ofeed_any {X S : Nat → Prop} {w : World} {pe g co cr : Nat} {Ao Ar : Option Addr} {l : List Ou} {E : Qn} (h : OnM X w pe g S Ao co l Ar cr E) (b : Bytes) (A : Option Addr) (c : Nat) (hR : Rd w A (bvs b)) (hlen : E.rest.length + b.length ≤ 1073741824) :
    Calls Try.prog 23 #[.pointer (some ⟨pe, 0, none⟩), .slice A b.length c] w fun e w' => e = .returned (.int .i64 ((E.feed b).1 : Nat)) ∧ OFeed X w pe g (E.feed b).2 w' := by
  obtain ⟨Z, hZ⟩ : ∃ Z, Z = E.feed b := ⟨_, rfl⟩
  rw [← hZ]
  have hb := h.blk
  have hy4 := hb.cell 4
  have hy5 := hb.cell 5
  simp only [List.getElem?_toArray, List.getElem?_cons_zero, List.getElem?_cons_succ] at hy4 hy5
  have hz4 := hb.frozen 4
  have hpl := hb.lt
  by_cases he : E.err = 0
  rotate_left
  · have hei : ¬ (E.err : Int) = 0 := by omega
    have hZ2 : Z = (E.err, E) := by rw [hZ]; unfold Qn.feed; rw [if_pos he]
    clear hZ
    have H := Lib.hid h
    have HB := Lib.hid hb
    have HZ2 := Lib.hid hZ2
    clear h hb hZ2
    go_enter Try.func23, Try.ntmps23
    go_wp2
    go_ret
    rw [HZ2.out]
    exact ⟨rfl, X, S, Ao, co, l, Ar, cr, H.out, Frm.refl _ _, fun k hk => .inl hk⟩
  rw [he] at hy5
  have hZ2 : Z = feedN (E.rest ++ b).length E (E.rest ++ b) := by rw [hZ, feed_eq E b he]
  clear hZ
  have hS0 : w.drew.cell? ⟨pe, 4, none⟩ = some (.slice Ar E.rest.length cr) ∧ pe < w.drew.heap.size := ⟨hy4, hpl⟩
  have happ := h.rest.tight.capn
  have hrc : E.rest.length ≤ cr := h.rc
  have H := Lib.hid h
  have HR := Lib.hid hR
  have HB := Lib.hid hb
  have HAPP := Lib.hid happ
  have HZ2 := Lib.hid hZ2
  have HRC := Lib.hid hrc
  clear h hR hb happ hZ2 hrc
  go_enter Try.func23, Try.ntmps23
  go_upto_region 3 with (fail)
  refine wp_region_til (by kernel_rfl) (fun w' => w'.cell? ⟨pe, 4, none⟩ = some (.slice Ar E.rest.length cr) ∧ pe < w'.heap.size) 20 ?_
  change wpAnyT _ _ _ _ _ _ _ _ _ w.drew
  refine wpAnyT_take (i := 0) (v := ?_) (d := some 22) rfl (by rfl) (by kernel_rfl) (fun _ _ _ h => h) (by rfl) hS0 (fun w hSw => ?_) ?_
  rotate_left
  · (try dsimp only at hSw); go_simp; first | done | (with_reducible rfl)
  simp only [Act.put, List.setIfInBounds_toArray, List.set_cons_zero, List.set_cons_succ]
  refine wpAnyT_take (i := 1) (v := ?_) (d := some 23) rfl (by rfl) (by kernel_rfl) (fun _ _ _ h => h) (by rfl) hS0 (fun w hSw => ?_) ?_
  rotate_left
  · (try dsimp only at hSw); go_simp; first | done | (with_reducible rfl)
  simp only [Act.put, List.setIfInBounds_toArray, List.set_cons_zero, List.set_cons_succ]
  refine wpAnyT_take (i := 2) (v := ?_) (d := some 24) rfl (by rfl) (by kernel_rfl) (fun _ _ _ h => h) (by rfl) hS0 (fun w hSw => ?_) ?_
  rotate_left
  · (try dsimp only at hSw); go_simp; first | done | (with_reducible rfl)
  simp only [Act.put, List.setIfInBounds_toArray, List.set_cons_zero, List.set_cons_succ]
  refine wpAnyT_take (i := 3) (v := ?_) (d := some 25) rfl (by rfl) (by kernel_rfl) (fun _ _ _ h => h) (by rfl) hS0 (fun w hSw => ?_) ?_
  rotate_left
  · (try dsimp only at hSw); go_simp; first | done | (with_reducible rfl)
  simp only [Act.put, List.setIfInBounds_toArray, List.set_cons_zero, List.set_cons_succ]
  refine wpAnyT_take (i := 4) (v := ?_) (d := some 26) rfl (by rfl) (by kernel_rfl) (fun _ _ _ h => h) (by rfl) hS0 (fun w hSw => ?_) ?_
  rotate_left
  · (try dsimp only at hSw); go_simp; first | done | (with_reducible rfl)
  simp only [Act.put, List.setIfInBounds_toArray, List.set_cons_zero, List.set_cons_succ]
  refine wpAnyT_take (i := 5) (v := ?_) (d := some 27) rfl (by rfl) (by kernel_rfl) (fun _ _ _ h => h) (by rfl) hS0 (fun w hSw => ?_) ?_
  rotate_left
  · (try dsimp only at hSw); go_simp; first | done | (with_reducible rfl)
  simp only [Act.put, List.setIfInBounds_toArray, List.set_cons_zero, List.set_cons_succ]
  refine wpAnyT_take (i := 6) (v := ?_) (d := some 28) rfl (by rfl) (by kernel_rfl) (fun _ _ _ h => h) (by rfl) hS0 (fun w hSw => ?_) ?_
  rotate_left
  · (try dsimp only at hSw); go_simp; first | done | (with_reducible rfl)
  simp only [Act.put, List.setIfInBounds_toArray, List.set_cons_zero, List.set_cons_succ]
  refine wpAnyT_take (i := 7) (v := ?_) (d := some 29) rfl (by rfl) (by kernel_rfl) (fun _ _ _ h => h) (by rfl) hS0 (fun w hSw => ?_) ?_
  rotate_left
  · (try dsimp only at hSw); go_simp; first | done | (with_reducible rfl)
  simp only [Act.put, List.setIfInBounds_toArray, List.set_cons_zero, List.set_cons_succ]
  refine wpAnyT_take (i := 8) (v := ?_) (d := some 30) rfl (by rfl) (by kernel_rfl) (fun _ _ _ h => h) (by rfl) hS0 (fun w hSw => ?_) ?_
  rotate_left
  · (try dsimp only at hSw); go_simp; first | done | (with_reducible rfl)
  simp only [Act.put, List.setIfInBounds_toArray, List.set_cons_zero, List.set_cons_succ]
  refine wpAnyT_take (i := 9) (v := ?_) (d := some 31) rfl (by rfl) (by kernel_rfl) (fun _ _ _ h => h) (by rfl) hS0 (fun w hSw => ?_) ?_
  rotate_left
  · (try dsimp only at hSw); go_simp; first | done | (with_reducible rfl)
  simp only [Act.put, List.setIfInBounds_toArray, List.set_cons_zero, List.set_cons_succ]
  refine wpAnyT_take (i := 10) (v := ?_) (d := some 32) rfl (by rfl) (by kernel_rfl) (fun _ _ _ h => h) (by rfl) hS0 (fun w hSw => ?_) ?_
  rotate_left
  · (try dsimp only at hSw); go_simp; first | done | (with_reducible rfl)
  simp only [Act.put, List.setIfInBounds_toArray, List.set_cons_zero, List.set_cons_succ]
  refine wpAnyT_take (i := 11) (v := ?_) (d := some 33) rfl (by rfl) (by kernel_rfl) (fun _ _ _ h => h) (by rfl) hS0 (fun w hSw => ?_) ?_
  rotate_left
  · (try dsimp only at hSw); go_simp; first | done | (with_reducible rfl)
  simp only [Act.put, List.setIfInBounds_toArray, List.set_cons_zero, List.set_cons_succ]
  refine wpAnyT_take (i := 12) (v := ?_) (d := some 34) rfl (by rfl) (by kernel_rfl) (fun _ _ _ h => h) (by rfl) hS0 (fun w hSw => ?_) ?_
  rotate_left
  · (try dsimp only at hSw); go_simp; first | done | (with_reducible rfl)
  simp only [Act.put, List.setIfInBounds_toArray, List.set_cons_zero, List.set_cons_succ]
  refine wpAnyT_take (i := 13) (v := ?_) (d := some 35) rfl (by rfl) (by kernel_rfl) (fun _ _ _ h => h) (by rfl) hS0 (fun w hSw => ?_) ?_
  rotate_left
  · (try dsimp only at hSw); go_simp; first | done | (with_reducible rfl)
  simp only [Act.put, List.setIfInBounds_toArray, List.set_cons_zero, List.set_cons_succ]
  refine wpAnyT_take (i := 14) (v := ?_) (d := some 36) rfl (by rfl) (by kernel_rfl) (fun _ _ _ h => h) (by rfl) hS0 (fun w hSw => ?_) ?_
  rotate_left
  · (try dsimp only at hSw); go_simp; first | done | (with_reducible rfl)
  simp only [Act.put, List.setIfInBounds_toArray, List.set_cons_zero, List.set_cons_succ]
  refine wpAnyT_take (i := 15) (v := .slice Ar E.rest.length E.rest.length) (d := some 37) rfl (by rfl) (by kernel_rfl) (fun _ _ _ h => h) (by rfl) hS0 (fun w hSw => run_capG u8s rfl rfl rfl rfl rfl rfl HRC.out) ?_
  simp only [Act.put, List.setIfInBounds_toArray, List.set_cons_zero, List.set_cons_succ]
  refine wpAnyT_take (i := 16) (v := ?_) (d := some 38) rfl (by rfl) (by kernel_rfl) (fun _ _ _ h => h) (by rfl) hS0 (fun w hSw => ?_) ?_
  rotate_left
  · (try dsimp only at hSw); go_simp; first | done | (with_reducible rfl)
  simp only [Act.put, List.setIfInBounds_toArray, List.set_cons_zero, List.set_cons_succ]
  refine wpAnyT_one (i := 17) rfl (by kernel_rfl) (fun K hKK => ?_)
  refine step_append2 u8s rfl rfl rfl HAPP.out.drew (fun k hk => .inr hk) rfl (HR.out.drew) (by rw [bvs_length, Nat.mul_one]) (bvs_one _) (by omega) ?_
  intro A9 c9 w9 hA9 _ hb9 hW9
  have hl9 : E.rest.length + b.length = (E.rest ++ b).length := List.length_append.symm
  rw [← bvs_append, hl9] at hA9
  rw [hl9]
  have hF9 : Frm (New w) w w9 := Frm.trans ((Frm.refl _ w).drew) (hW9.mono (fun k hk => by
    rcases hk with e | e
    · exact e
    · omega))
  have hY9 : ∀ k, M.blk A9 = some k → k < w9.heap.size ∧ ¬ S k ∧ k ≠ pe ∧ Own X w k := fun k hk => by
    rcases hb9 with e | e
    · have h1 := H.out.rr k (e.1 ▸ hk)
      exact ⟨Nat.lt_of_lt_of_le (H.out.low k h1.1) hF9.size, h1.2.1, h1.2.2, .inl h1.1⟩
    · have h2 := app_lt hA9 (by intro e2; have := congrArg List.length e2; rw [bvs_length] at this; simp only [List.length_nil] at this; omega) k hk
      rw [e.1] at hk
      have hk2 : w.heap.size = k := by simpa using hk
      exact ⟨h2, fun q => by have := H.out.low k (H.out.xs k q); omega, fun q => by have := H.out.low pe H.out.xp; omega, .inr (by show _ ≤ _; omega)⟩
  clear hb9 hW9
  have hbz9 := HB.out.fresh hF9
  clear hy4 hz4 hpl hy5
  have hy4 := hbz9.cell 4
  simp only [List.getElem?_toArray, List.getElem?_cons_zero, List.getElem?_cons_succ] at hy4
  have hpl := hbz9.lt
  have hz4 := hbz9.frozen 4
  have hS9 : w9.cell? ⟨pe, 4, none⟩ = some (.slice Ar E.rest.length cr) ∧ pe < w9.heap.size := ⟨hy4, hpl⟩
  have h10 := (H.out.fresh hF9).setr hA9 (fun k hk => ⟨(hY9 k hk).1, (hY9 k hk).2.1, (hY9 k hk).2.2.1⟩) (by omega)
  have hF10 : Frm (Own X w) w (w9.setCell ⟨pe, 4, none⟩ (.slice A9 (E.rest ++ b).length c9)) := (hF9.mono (fun k hk => .inr hk)).setCell (p := ⟨pe, 4, none⟩) (.inl H.out.xp) _
  have hs10 : ∀ k, X k ∨ M.blk A9 = some k → Own X w k := fun k hk => by
    rcases hk with hk | hk
    · exact .inl hk
    · exact (hY9 k hk).2.2.2
  obtain ⟨r0, hr0⟩ : ∃ r0, r0 = E.rest ++ b := ⟨_, rfl⟩
  have hr0l : r0.length ≤ 1073741824 := by rw [hr0]; omega
  have hZ3 := HZ2.out
  rw [← hr0] at h10 hF10 hZ3 ⊢
  clear HZ2
  have HF9 := Lib.hid hF9
  have H10 := Lib.hid h10
  have HF10 := Lib.hid hF10
  have HBZ9 := Lib.hid hbz9
  have HS10 := Lib.hid hs10
  have HR0 := Lib.hid hr0
  have HL9 := Lib.hid hl9
  have HZ3 := Lib.hid hZ3
  clear hF9 h10 hF10 hbz9 hs10 hr0 hl9 hZ3
  clear hA9 hY9
  refine hKK.out _ _ (.inr hS9) ?_
  clear hKK K hS0
  refine wpAnyT_one (i := 18) rfl (by kernel_rfl) (fun K hK => ?_)
  go_simp
  refine hK.out _ _ (.inr (hS9)) ?_
  clear hK K
  refine wpAnyT_one (i := 19) rfl (by kernel_rfl) (fun K hK => ?_)
  go_simp
  refine hK.out _ _ (.inr (hS9)) ?_
  clear hK K
  refine wpAnyT_one (i := 20) rfl (by kernel_rfl) (fun K hK => ?_)
  go_simp
  refine hK.out _ _ (.inl (by kernel_rfl)) ?_
  clear hK K
  refine wpAnyT_done (by kernel_rfl) ?_ _
  clear hy4 hpl hz4 hS9 HBZ9 HB HAPP HF9
  generalize w9.setCell ⟨pe, 4, none⟩ (.slice A9 r0.length c9) = w10 at *
  go_wp2_with (fail)
  go_loopg [] r0.length (fun kk wx => ∃ (r : Bytes) (E1 : Qn) (X1 : Nat → Prop) (Ao1 : Option Addr) (co1 : Nat) (l1 : List Ou) (A1 : Option Addr) (c1 : Nat), r.length ≤ kk ∧ r.length ≤ 1073741824 ∧ E1.err = 0 ∧ Hid (OnM X1 wx pe g S Ao1 co1 l1 A1 c1 { E1 with rest := r }) ∧ Hid (Z = feedN kk E1 r) ∧ Hid (Frm (Own X w) w wx) ∧ Hid (∀ k, X1 k → Own X w k))
  case atStart => exact ⟨r0, E, _, Ao, co, l, A9, c9, Nat.le_refl _, hr0l, he, H10, HZ3, HF10, HS10⟩
  case round =>
    clear H10 HZ3 HF10 HS10
    obtain ⟨r, E1, X1, Ao1, co1, l1, A1, c1, hrk, hrl, he1, hQ, hZk, hF, hsub⟩ := hrel
    rename World => wx
    have hbx := hQ.out.blk
    simp only at hbx
    have hy4 := hbx.cell 4
    have hy5 := hbx.cell 5
    simp only [List.getElem?_toArray, List.getElem?_cons_zero, List.getElem?_cons_succ] at hy4 hy5
    have hpl := hbx.lt
    rw [he1] at hy5
    by_cases hne : r = []
    · subst hne
      have hZ4 : Z = (0, { E1 with rest := [] }) := by rw [hZk.out, feedN_nil]
      simp only [List.length_nil] at hy4
      have HBX := Lib.hid hbx
      have HQ := Lib.hid hQ
      have HFX := Lib.hid hF
      have HSUB := Lib.hid hsub
      have HZ4 := Lib.hid hZ4
      clear hbx hQ hF hsub hZ4
      go_wp2
      go_ret
      rw [HZ4.out]
      exact ⟨rfl, X1, S, Ao1, co1, l1, A1, c1, HQ.out.out, HFX.out.out, HSUB.out.out⟩
    · have hr0 : 0 < r.length := List.length_pos_iff.2 hne
      have hr0i : (0 : Int) < (r.length : Int) := by omega
      obtain ⟨gb, off, hAe, hx0⟩ := hQ.out.rest.rd.at_ (k := 0) (by rw [bvs_length]; exact hr0)
      subst hAe
      have hxc : wx.cell? ⟨gb, off, none⟩ = some (.int .u8 ((r.headD 0).toNat : Int)) := by
        rw [Nat.add_zero] at hx0
        rw [hx0]
        cases r with
        | nil => simp at hr0
        | cons x t => rfl
      clear hx0
      have hx8 : (r.headD 0).toNat < 256 := (r.headD 0).toNat_lt
      obtain ⟨hd8, hhd8⟩ : ∃ hd8, hd8 = (r.headD 0).toNat := ⟨_, rfl⟩
      rw [← hhd8] at hxc hx8
      have hgl := World.block_lt_of_cell? _ _ hxc
      simp only at hgl
      obtain ⟨f, hf⟩ : ∃ f, gk = f + 1 := ⟨gk - 1, by omega⟩
      have hZk2 : Z = if (E1.ins r).1 = 0 then feedN f (E1.ins r).2.2 (r.drop (E1.ins r).2.1) else if (E1.ins r).1 = 20 then (0, { E1 with rest := r }) else ((E1.ins r).1, { E1 with rest := r, err := (E1.ins r).1 }) := by rw [hZk.out, hf, feedN_cons f E1 r hne]
      clear hZk
      have hmask : ∀ b, decide (hd8 / 128 % 2 = 0) = b → (bits .and .u8 (hd8 : Int) 128 == 0) = b ∧ (bits .and .u8 (hd8 : Int) 128 != 0) = !b := fun b hb => mask_is (x := hd8) (m := 128) (b := b) hx8 (.inl rfl) hb
      have HZK2 := Lib.hid hZk2
      have HMASK := Lib.hid hmask
      have HX8 := Lib.hid hx8
      have HHD8 := Lib.hid hhd8
      clear hZk2 hmask hx8 hhd8
      by_cases hq7 : 128 ≤ hd8
      · skip
        as_aux_lemma =>
          have hmk := HMASK.out false (decide_eq_false (by have := HX8.out; omega))
          obtain ⟨hm1, hm2⟩ := hmk
          simp only [Bool.not_false] at hm2
          obtain ⟨z, hz⟩ : ∃ z, z = rdp r 7 := ⟨_, rfl⟩
          have hrg := rdp_range r 7 (by decide)
          have hrd : Calls Try.prog 62 #[.slice (some ⟨gb, off, none⟩) r.length c1, .int .i64 7] wx fun e w3 => e = .returned (.tuple #[.int .u64 (z.1 : Int), .int .i64 (z.2.1 : Int), .int .i64 (z.2.2 : Int)]) ∧ ∃ q, w3 = wx.drewN q := by
            rw [hz]
            exact rrdp_any r (some ⟨gb, off, none⟩) c1 7 wx hQ.out.rest.rd (by omega) (by omega) (by omega)
          rw [← hz] at hrg
          have hin : E1.ins r = if z.2.2 ≠ 0 then (z.2.2, 0, E1) else (match ackGo z.1 E1.opn with | none => (26, z.2.1, E1) | some (o, r2) => (0, z.2.1, { E1 with known := max E1.known o.count, opn := r2 })) := by
            unfold Qn.ins
            rw [← HHD8.out]
            simp only [if_pos hq7, ← hz]
            rfl
          obtain ⟨n, k, e2⟩ := z
          simp only at hrg hrd hin
          have HRD := Lib.hid hrd
          have HIN := Lib.hid hin
          have HZ := Lib.hid hz
          have HBX := Lib.hid hbx
          clear hrd hin hz hbx
          go_wp2_with (fail)
          refine HRD.out.mono ?_
          rintro e w1 ⟨rfl, nq, hnq⟩
          have hF1 : Frm (New wx) wx w1 := by rw [hnq]; exact (Frm.refl _ _).drewN _
          clear hnq
          have h1 := hQ.out.fresh hF1
          have hFw := hF.out.then_new (fun q hq => .inr hq) hF1
          clear hy4 hy5 hpl hxc hgl HRD HBX
          have hb1 := h1.blk
          have hy4 := hb1.cell 4
          have hy5 := hb1.cell 5
          simp only [List.getElem?_toArray, List.getElem?_cons_zero, List.getElem?_cons_succ] at hy4 hy5
          have hz5 := hb1.frozen 5
          have hpl := hb1.lt
          rw [show ({ E1 with rest := r } : Qn).err = 0 from he1] at hy5
          by_cases he : e2 = 0
          rotate_left
          · have hei : ((e2 : Int) == 0) = false := by rw [beq_eq_false_iff_ne]; omega
            have hin2 : E1.ins r = (e2, 0, E1) := by rw [HIN.out, if_pos he]
            by_cases he20 : e2 = 20
            · subst he20
              have hZ4 : Z = (0, { E1 with rest := r }) := by rw [HZK2.out, hin2, if_neg (by simp), if_pos rfl]
              have H1 := Lib.hid h1
              have HB1 := Lib.hid hb1
              have HFW := Lib.hid hFw
              have HSUB := Lib.hid hsub
              have HZ4 := Lib.hid hZ4
              clear h1 hb1 hFw hsub hZ4
              clear hin2
              go_wp2
              go_ret
              rw [HZ4.out]
              exact ⟨rfl, X1, S, Ao1, co1, l1, _, c1, H1.out, HFW.out, HSUB.out.out⟩
            · have he20i : ((e2 : Int) == 20) = false := by rw [beq_eq_false_iff_ne]; omega
              have hZ4 : Z = (e2, { E1 with rest := r, err := e2 }) := by rw [HZK2.out, hin2, if_neg he, if_neg he20]
              have h2 := h1.seterr e2
              have hF2 := hFw.setCell (p := ⟨pe, 5, none⟩) (hsub.out pe hQ.out.xp) (.int .i64 (e2 : Int))
              have H2 := Lib.hid h2
              have HB1 := Lib.hid hb1
              have HF2 := Lib.hid hF2
              have HSUB := Lib.hid hsub
              have HZ4 := Lib.hid hZ4
              clear h2 hb1 hF2 hsub hZ4
              clear hin2
              go_wp2
              go_ret
              rw [HZ4.out]
              exact ⟨rfl, X1, S, Ao1, co1, l1, _, c1, H2.out, HF2.out, HSUB.out.out⟩
          · subst he
            obtain ⟨hk1, hk2, hnr⟩ := hrg rfl
            have hin2 := HIN.out
            rw [if_neg (by simp)] at hin2
            clear HIN
            have HIN2 := Lib.hid hin2
            have H1 := Lib.hid h1
            have HB1 := Lib.hid hb1
            have HFW := Lib.hid hFw
            clear hin2 h1 hb1 hFw
            go_upto_block 2 with (fail)
            go_cut [9, 10, 11, 12] from 74 to 199 (fun v9 v10 v11 v12 w' => ∃ (ok : Bool) (E2 : Qn) (X2 : Nat → Prop) (Ao2 : Option Addr) (co2 : Nat) (l2 : List Ou), v9 = .bool ok ∧ Hid (E1.ins r = if ok = true then (0, k, E2) else (26, k, E1)) ∧ Hid (ok = false → E2 = E1) ∧ E2.err = 0 ∧ Hid (OnM X2 w' pe g S Ao2 co2 l2 (some ⟨gb, off, none⟩) c1 { E2 with rest := r }) ∧ Hid (Frm (Own X w) w w') ∧ Hid (∀ k, X2 k → Own X w k))
            case first =>
              as_aux_lemma =>
                have hlm := Nat.le_trans H1.out.oc H1.out.om
                simp only [maxLen] at hlm
                have hR := H1.out.opn.rd
                have hsm := H1.out.same
                have hll := H1.out.len
                have hola := H1.out.ol
                simp only at hsm hll hola
                have HR := Lib.hid hR
                have HSM := Lib.hid hsm
                have HLL := Lib.hid hll
                have HOLA := Lib.hid hola
                clear hR hsm hll hola
                go_wp2_with (fail)
                go_loopg [9, 10] l1.length (fun kk v9 v wx => ∃ i : Nat, v9 = .bool false ∧ v = .int .i64 (i : Int) ∧ i + kk = l1.length ∧ Hid (∀ j (hj : j < i) (hjl : j < l1.length), l1[j].q.stream ≠ n) ∧ wx = w1)
                case atStart => exact ⟨0, rfl, rfl, by omega, Lib.hid (fun j hj => absurd hj (Nat.not_lt_zero _)), rfl⟩
                case round =>
                  obtain ⟨i, rfl, rfl, hi, hno, rfl⟩ := hrel
                  rename World => w1
                  clear hy4 hy5 hz5 hpl
                  have hb := HB1.out
                  have hy2 := hb.cell 2
                  have hy3 := hb.cell 3
                  simp only [List.getElem?_toArray, List.getElem?_cons_zero, List.getElem?_cons_succ] at hy2 hy3
                  have hz2 := hb.frozen 2
                  have hpl := hb.lt
                  clear hb
                  by_cases hil : i < l1.length
                  · have hili : (i : Int) < (l1.length : Int) := by omega
                    obtain ⟨gA, oA, hAe, hjunk⟩ := HR.out.at_ (k := i * 3) (by rw [ocC_len]; omega)
                    subst hAe
                    clear hjunk
                    obtain ⟨hc0, hc1, _⟩ := ou_cells HR.out i hil
                    have hgl := World.block_lt_of_cell? _ _ hc0
                    simp only at hgl
                    obtain ⟨y, hyl⟩ : ∃ y, y = l1[i] := ⟨_, rfl⟩
                    rw [← hyl] at hc0 hc1
                    by_cases hys : y.q.stream = n
                    · rw [hys] at hc0
                      have hack : ackGo n E1.opn = some (y.q, E1.opn.take i ++ E1.opn.drop (i + 1)) := by
                        have hh : E1.opn.length = l1.length := HLL.out.symm
                        have hg : ∀ j (hj : j < l1.length), E1.opn[j]'(by rw [hh]; exact hj) = l1[j].q := fun j hj => by simp [← HSM.out]
                        rw [ackGo_at E1.opn i (by rw [hh]; exact hil) (by rw [hg i hil, ← hyl]; exact hys) (fun j hj => by rw [hg j (Nat.lt_trans hj hil)]; exact hno.out j hj (Nat.lt_trans hj hil)), hg i hil, ← hyl]
                      have hin3 : E1.ins r = (0, k, { E1 with known := max E1.known y.q.count, opn := E1.opn.take i ++ E1.opn.drop (i + 1) }) := by rw [HIN2.out, hack]
                      clear HIN2 hack
                      have HIN3 := Lib.hid hin3
                      have HNO := Lib.hid hno
                      have HYL := Lib.hid hyl
                      clear hin3 hno hyl
                      as_aux_lemma =>
                        go_upto_region 24 with (fail)
                        have hS0 : w1.drew.cell? ⟨pe, 2, none⟩ = some (.int .u64 (E1.known : Int)) ∧ w1.drew.cell? ⟨pe, 3, none⟩ = some (.slice (some ⟨gA, oA, none⟩) l1.length co1) ∧ pe < w1.drew.heap.size ∧ gA < w1.drew.heap.size ∧ w1.drew.cell? ⟨gA, oA + i * 3 + 1, none⟩ = some (.int .u64 (y.q.count : Int)) := ⟨hy2, hy3, hpl, hgl, hc1⟩
                        refine wp_region_til (by kernel_rfl) (fun w' => w'.cell? ⟨pe, 2, none⟩ = some (.int .u64 (E1.known : Int)) ∧ w'.cell? ⟨pe, 3, none⟩ = some (.slice (some ⟨gA, oA, none⟩) l1.length co1) ∧ pe < w'.heap.size ∧ gA < w'.heap.size ∧ w'.cell? ⟨gA, oA + i * 3 + 1, none⟩ = some (.int .u64 (y.q.count : Int))) 16 ?_
                        change wpAnyT _ _ _ _ _ _ _ _ _ w1.drew
                        refine wpAnyT_take (i := 0) (v := ?_) (d := some 124) rfl (by rfl) (by kernel_rfl) (fun _ _ _ h => h) (by rfl) hS0 (fun w hSw => ?_) ?_
                        rotate_left
                        · (try dsimp only at hSw); go_simp; first | done | (with_reducible rfl)
                        simp only [Act.put, List.setIfInBounds_toArray, List.set_cons_zero, List.set_cons_succ]
                        refine wpAnyT_take (i := 1) (v := ?_) (d := some 125) rfl (by rfl) (by kernel_rfl) (fun _ _ _ h => h) (by rfl) hS0 (fun w hSw => ?_) ?_
                        rotate_left
                        · (try dsimp only at hSw); go_simp; first | done | (with_reducible rfl)
                        simp only [Act.put, List.setIfInBounds_toArray, List.set_cons_zero, List.set_cons_succ]
                        refine wpAnyT_take (i := 2) (v := ?_) (d := some 126) rfl (by rfl) (by kernel_rfl) (fun _ _ _ h => h) (by rfl) hS0 (fun w hSw => ?_) ?_
                        rotate_left
                        · (try dsimp only at hSw); go_simp; first | done | (with_reducible rfl)
                        simp only [Act.put, List.setIfInBounds_toArray, List.set_cons_zero, List.set_cons_succ]
                        refine wpAnyT_take (i := 3) (v := ?_) (d := some 127) rfl (by rfl) (by kernel_rfl) (fun _ _ _ h => h) (by rfl) hS0 (fun w hSw => ?_) ?_
                        rotate_left
                        · (try dsimp only at hSw); go_simp; first | done | (with_reducible rfl)
                        simp only [Act.put, List.setIfInBounds_toArray, List.set_cons_zero, List.set_cons_succ]
                        refine wpAnyT_take (i := 4) (v := ?_) (d := some 128) rfl (by rfl) (by kernel_rfl) (fun _ _ _ h => h) (by rfl) hS0 (fun w hSw => ?_) ?_
                        rotate_left
                        · (try dsimp only at hSw); go_simp; first | done | (with_reducible rfl)
                        simp only [Act.put, List.setIfInBounds_toArray, List.set_cons_zero, List.set_cons_succ]
                        refine wpAnyT_take (i := 5) (v := ?_) (d := some 129) rfl (by rfl) (by kernel_rfl) (fun _ _ _ h => h) (by rfl) hS0 (fun w hSw => ?_) ?_
                        rotate_left
                        · (try dsimp only at hSw); go_simp; first | done | (with_reducible rfl)
                        simp only [Act.put, List.setIfInBounds_toArray, List.set_cons_zero, List.set_cons_succ]
                        refine wpAnyT_take (i := 6) (v := ?_) (d := some 130) rfl (by rfl) (by kernel_rfl) (fun _ _ _ h => h) (by rfl) hS0 (fun w hSw => ?_) ?_
                        rotate_left
                        · (try dsimp only at hSw); go_simp; first | done | (with_reducible rfl)
                        simp only [Act.put, List.setIfInBounds_toArray, List.set_cons_zero, List.set_cons_succ]
                        refine wpAnyT_take (i := 7) (v := ?_) (d := some 131) rfl (by rfl) (by kernel_rfl) (fun _ _ _ h => h) (by rfl) hS0 (fun w hSw => ?_) ?_
                        rotate_left
                        · (try dsimp only at hSw); go_simp; first | done | (with_reducible rfl)
                        simp only [Act.put, List.setIfInBounds_toArray, List.set_cons_zero, List.set_cons_succ]
                        refine wpAnyT_take (i := 8) (v := ?_) (d := some 132) rfl (by rfl) (by kernel_rfl) (fun _ _ _ h => h) (by rfl) hS0 (fun w hSw => ?_) ?_
                        rotate_left
                        · (try dsimp only at hSw); go_simp; first | done | (with_reducible rfl)
                        simp only [Act.put, List.setIfInBounds_toArray, List.set_cons_zero, List.set_cons_succ]
                        refine wpAnyT_take (i := 9) (v := ?_) (d := some 133) rfl (by rfl) (by kernel_rfl) (fun _ _ _ h => h) (by rfl) hS0 (fun w hSw => ?_) ?_
                        rotate_left
                        · (try dsimp only at hSw); go_simp; first | done | (with_reducible rfl)
                        simp only [Act.put, List.setIfInBounds_toArray, List.set_cons_zero, List.set_cons_succ]
                        refine wpAnyT_take (i := 10) (v := ?_) (d := some 134) rfl (by rfl) (by kernel_rfl) (fun _ _ _ h => h) (by rfl) hS0 (fun w hSw => ?_) ?_
                        rotate_left
                        · (try dsimp only at hSw); go_simp; first | done | (with_reducible rfl)
                        simp only [Act.put, List.setIfInBounds_toArray, List.set_cons_zero, List.set_cons_succ]
                        refine wpAnyT_take (i := 11) (v := ?_) (d := some 135) rfl (by rfl) (by kernel_rfl) (fun _ _ _ h => h) (by rfl) hS0 (fun w hSw => ?_) ?_
                        rotate_left
                        · (try dsimp only at hSw); go_simp; first | done | (with_reducible rfl)
                        simp only [Act.put, List.setIfInBounds_toArray, List.set_cons_zero, List.set_cons_succ]
                        refine wpAnyT_take (i := 12) (v := ?_) (d := some 136) rfl (by rfl) (by kernel_rfl) (fun _ _ _ h => h) (by rfl) hS0 (fun w hSw => ?_) ?_
                        rotate_left
                        · (try dsimp only at hSw); go_simp; first | done | (with_reducible rfl)
                        simp only [Act.put, List.setIfInBounds_toArray, List.set_cons_zero, List.set_cons_succ]
                        refine wpAnyT_take (i := 13) (v := ?_) (d := some 137) rfl (by rfl) (by kernel_rfl) (fun _ _ _ h => h) (by rfl) hS0 (fun w hSw => ?_) ?_
                        rotate_left
                        · (try dsimp only at hSw); go_simp; first | done | (with_reducible rfl)
                        simp only [Act.put, List.setIfInBounds_toArray, List.set_cons_zero, List.set_cons_succ]
                        refine wpAnyT_one (i := 14) rfl (by kernel_rfl) (fun K hK => ?_)
                        go_simp
                        refine hK.out _ _ (.inr (hS0)) ?_
                        clear hK K
                        refine wpAnyT_one (i := 15) rfl (by kernel_rfl) (fun K hK => ?_)
                        go_simp
                        refine hK.out _ _ (.inr (hS0)) ?_
                        clear hK K
                        refine wpAnyT_one (i := 16) rfl (by kernel_rfl) (fun K hK => ?_)
                        go_simp
                        refine hK.out _ _ (.inl (by kernel_rfl)) ?_
                        clear hK K
                        refine wpAnyT_done (by kernel_rfl) ?_ _
                        have hmx : (if E1.known < y.q.count then (y.q.count : Int) else (E1.known : Int)) = ((max E1.known y.q.count : Nat) : Int) := by split <;> omega
                        have hymem : y.q ∈ E1.opn := by rw [← HSM.out, HYL.out]; exact List.mem_map.2 ⟨l1[i], List.getElem_mem hil, rfl⟩
                        have hyct := H1.out.ctn _ hymem
                        have hkn1 := H1.out.kn
                        simp only at hyct hkn1
                        have h2 := (H1.out.setknown (max E1.known y.q.count) (by show max E1.known y.q.count ≤ E1.t.n; omega)).fresh ((Frm.refl _ _).drew)
                        have hF2 := (HFW.out.setCell (p := ⟨pe, 2, none⟩) (hsub.out pe H1.out.xp) (.int .u64 ((max E1.known y.q.count : Nat) : Int))).drew
                        rw [hmx]
                        generalize max E1.known y.q.count = mk at *
                        generalize (w1.setCell ⟨pe, 2, none⟩ (.int .u64 (mk : Int))).drew = w2 at *
                        clear hy2 hy3 hpl hgl hz2 hc0 hc1 hS0 hmx hymem hyct hkn1 HFW
                        have hb := h2.blk
                        have hy3 := hb.cell 3
                        simp only [List.getElem?_toArray, List.getElem?_cons_zero, List.getElem?_cons_succ] at hy3
                        have hpl := hb.lt
                        have hz3 := hb.frozen 3
                        have hgl : gA < w2.heap.size := by
                          obtain ⟨gg, off, q, hlt⟩ := h2.opn.rd.lt (by intro e; have := congrArg List.length e; rw [ocC_len] at this; simp at this; omega)
                          cases q
                          exact hlt
                        have hS0 : w2.drew.cell? ⟨pe, 3, none⟩ = some (.slice (some ⟨gA, oA, none⟩) l1.length co1) ∧ pe < w2.drew.heap.size := ⟨hy3, hpl⟩
                        have hoc := h2.oc
                        have happ := h2.opn
                        have htot : l1.length ≤ 1073741824 := by have := HOLA.out; have := HLL.out; omega
                        have H2 := Lib.hid h2
                        have HB := Lib.hid hb
                        have HF2 := Lib.hid hF2
                        have HOC := Lib.hid hoc
                        have HAPP := Lib.hid happ
                        clear h2 hb hF2 hoc happ
                        go_upto_region 25 with (fail)
                        refine wp_region_til (by kernel_rfl) (fun w' => w'.cell? ⟨pe, 3, none⟩ = some (.slice (some ⟨gA, oA, none⟩) l1.length co1) ∧ pe < w'.heap.size) 18 ?_
                        change wpAnyT _ _ _ _ _ _ _ _ _ w2.drew
                        refine wpAnyT_take (i := 0) (v := ?_) (d := some 140) rfl (by rfl) (by kernel_rfl) (fun _ _ _ h => h) (by rfl) hS0 (fun w hSw => ?_) ?_
                        rotate_left
                        · (try dsimp only at hSw); go_simp; first | done | (with_reducible rfl)
                        simp only [Act.put, List.setIfInBounds_toArray, List.set_cons_zero, List.set_cons_succ]
                        refine wpAnyT_take (i := 1) (v := ?_) (d := some 141) rfl (by rfl) (by kernel_rfl) (fun _ _ _ h => h) (by rfl) hS0 (fun w hSw => ?_) ?_
                        rotate_left
                        · (try dsimp only at hSw); go_simp; first | done | (with_reducible rfl)
                        simp only [Act.put, List.setIfInBounds_toArray, List.set_cons_zero, List.set_cons_succ]
                        refine wpAnyT_take (i := 2) (v := ?_) (d := some 142) rfl (by rfl) (by kernel_rfl) (fun _ _ _ h => h) (by rfl) hS0 (fun w hSw => ?_) ?_
                        rotate_left
                        · (try dsimp only at hSw); go_simp; first | done | (with_reducible rfl)
                        simp only [Act.put, List.setIfInBounds_toArray, List.set_cons_zero, List.set_cons_succ]
                        refine wpAnyT_take (i := 3) (v := ?_) (d := some 143) rfl (by rfl) (by kernel_rfl) (fun _ _ _ h => h) (by rfl) hS0 (fun w hSw => ?_) ?_
                        rotate_left
                        · (try dsimp only at hSw); go_simp; first | done | (with_reducible rfl)
                        simp only [Act.put, List.setIfInBounds_toArray, List.set_cons_zero, List.set_cons_succ]
                        refine wpAnyT_take (i := 4) (v := ?_) (d := some 144) rfl (by rfl) (by kernel_rfl) (fun _ _ _ h => h) (by rfl) hS0 (fun w hSw => ?_) ?_
                        rotate_left
                        · (try dsimp only at hSw); go_simp; first | done | (with_reducible rfl)
                        simp only [Act.put, List.setIfInBounds_toArray, List.set_cons_zero, List.set_cons_succ]
                        refine wpAnyT_take (i := 5) (v := ?_) (d := some 145) rfl (by rfl) (by kernel_rfl) (fun _ _ _ h => h) (by rfl) hS0 (fun w hSw => ?_) ?_
                        rotate_left
                        · (try dsimp only at hSw); go_simp; first | done | (with_reducible rfl)
                        simp only [Act.put, List.setIfInBounds_toArray, List.set_cons_zero, List.set_cons_succ]
                        refine wpAnyT_take (i := 6) (v := ?_) (d := some 146) rfl (by rfl) (by kernel_rfl) (fun _ _ _ h => h) (by rfl) hS0 (fun w hSw => ?_) ?_
                        rotate_left
                        · (try dsimp only at hSw); go_simp; first | done | (with_reducible rfl)
                        simp only [Act.put, List.setIfInBounds_toArray, List.set_cons_zero, List.set_cons_succ]
                        refine wpAnyT_take (i := 7) (v := .slice (some ⟨gA, oA, none⟩) i i) (d := some 147) rfl (by rfl) (by kernel_rfl) (fun _ _ _ h => h) (by rfl) hS0 (fun w hSw => run_capG osE rfl rfl rfl rfl rfl rfl (Nat.le_trans (Nat.le_of_lt hil) HOC.out)) ?_
                        simp only [Act.put, List.setIfInBounds_toArray, List.set_cons_zero, List.set_cons_succ]
                        refine wpAnyT_take (i := 8) (v := ?_) (d := some 148) rfl (by rfl) (by kernel_rfl) (fun _ _ _ h => h) (by rfl) hS0 (fun w hSw => ?_) ?_
                        rotate_left
                        · (try dsimp only at hSw); go_simp; first | done | (with_reducible rfl)
                        simp only [Act.put, List.setIfInBounds_toArray, List.set_cons_zero, List.set_cons_succ]
                        refine wpAnyT_take (i := 9) (v := ?_) (d := some 149) rfl (by rfl) (by kernel_rfl) (fun _ _ _ h => h) (by rfl) hS0 (fun w hSw => ?_) ?_
                        rotate_left
                        · (try dsimp only at hSw); go_simp; first | done | (with_reducible rfl)
                        simp only [Act.put, List.setIfInBounds_toArray, List.set_cons_zero, List.set_cons_succ]
                        refine wpAnyT_take (i := 10) (v := ?_) (d := some 150) rfl (by rfl) (by kernel_rfl) (fun _ _ _ h => h) (by rfl) hS0 (fun w hSw => ?_) ?_
                        rotate_left
                        · (try dsimp only at hSw); go_simp; first | done | (with_reducible rfl)
                        simp only [Act.put, List.setIfInBounds_toArray, List.set_cons_zero, List.set_cons_succ]
                        refine wpAnyT_take (i := 11) (v := ?_) (d := some 151) rfl (by rfl) (by kernel_rfl) (fun _ _ _ h => h) (by rfl) hS0 (fun w hSw => ?_) ?_
                        rotate_left
                        · (try dsimp only at hSw); go_simp; first | done | (with_reducible rfl)
                        simp only [Act.put, List.setIfInBounds_toArray, List.set_cons_zero, List.set_cons_succ]
                        refine wpAnyT_take (i := 12) (v := ?_) (d := some 152) rfl (by rfl) (by kernel_rfl) (fun _ _ _ h => h) (by rfl) hS0 (fun w hSw => ?_) ?_
                        rotate_left
                        · (try dsimp only at hSw); go_simp; first | done | (with_reducible rfl)
                        simp only [Act.put, List.setIfInBounds_toArray, List.set_cons_zero, List.set_cons_succ]
                        refine wpAnyT_take (i := 13) (v := ?_) (d := some 153) rfl (by rfl) (by kernel_rfl) (fun _ _ _ h => h) (by rfl) hS0 (fun w hSw => ?_) ?_
                        rotate_left
                        · (try dsimp only at hSw); go_simp; first | done | (with_reducible rfl)
                        simp only [Act.put, List.setIfInBounds_toArray, List.set_cons_zero, List.set_cons_succ]
                        obtain ⟨A3, hA3e⟩ : ∃ A3, A3 = (if co1 = i + 1 then (some ⟨gA, oA, none⟩ : Option Addr) else (some ⟨gA, oA, none⟩ : Option Addr).map (·.add ((i + 1) * 3))) := ⟨_, rfl⟩
                        refine wpAnyT_take (i := 14) (v := .slice A3 (l1.length - (i + 1)) (co1 - (i + 1))) (d := some 154) rfl (by rfl) (by kernel_rfl) (fun _ _ _ h => h) (by rfl) hS0 (fun w hSw => run_fromE osE hA3e.symm rfl rfl rfl rfl rfl (by rw [IntWalk.i64_in _ (by omega), Int.natCast_add]; rfl) (by omega)) ?_
                        simp only [Act.put, List.setIfInBounds_toArray, List.set_cons_zero, List.set_cons_succ]
                        have hcutA : App (fun k => M.blk (some (⟨gA, oA, none⟩ : Addr)) = some k ∨ New w2 k) w2 118 3 (some ⟨gA, oA, none⟩) i i (ocC (l1.take i)) := HAPP.out.cutN (Nat.le_of_lt hil) (ocC_take l1 i)
                        have hRdB : Rd w2 A3 (ocC (l1.drop (i + 1))) := by
                          have := (HAPP.out.from_ (i + 1) (by omega)).rd
                          rw [← hA3e] at this
                          have e : (ocC l1).drop ((i + 1) * 3) = ocC (l1.drop (i + 1)) := ocC_drop l1 (i + 1)
                          rw [e] at this
                          exact this
                        have hE1ol : E1.opn.length ≤ 1073741824 := HOLA.out
                        have HCUTA := Lib.hid hcutA
                        have HRDB := Lib.hid hRdB
                        clear hcutA hRdB
                        refine wpAnyT_one (i := 15) rfl (by kernel_rfl) (fun K hKK => ?_)
                        refine step_append2 osE rfl rfl rfl HCUTA.out.drew (fun k hk => .inr hk) rfl (HRDB.out.drew) (by rw [ocC_len, List.length_drop]) (ocC_one _) (by omega) ?_
                        intro A9 c9 w9 hA9 _ hb9 hW9
                        have hF9 : Frm (New w2) w2 w9 := Frm.trans ((Frm.refl _ w2).drew) (hW9.mono (fun k hk => by
                          rcases hk with e | e
                          · exact e
                          · omega))
                        rw [← ocC_append] at hA9
                        obtain ⟨l9, hl9⟩ : ∃ l9, l9 = l1.take i ++ l1.drop (i + 1) := ⟨_, rfl⟩
                        have hll9 : i + (l1.length - (i + 1)) = l9.length := by rw [hl9, List.length_append, List.length_take, List.length_drop]; omega
                        rw [← hl9, hll9] at hA9
                        rw [hll9]
                        have hY9 : ∀ k, M.blk A9 = some k → k < w9.heap.size ∧ ¬ S k ∧ k ≠ pe ∧ Own X1 w2 k := fun k hk => by
                          rcases hb9 with e | e
                          · have h3 := H2.out.ro k (e.1 ▸ hk)
                            exact ⟨Nat.lt_of_lt_of_le (H2.out.low k h3.1) hF9.size, h3.2.1, h3.2.2, .inl h3.1⟩
                          · have h3 := app_lt hA9 (by intro e2; have := congrArg List.length e2; rw [ocC_len] at this; simp only [List.length_nil] at this; omega) k hk
                            rw [e.1] at hk
                            have hk2 : w2.heap.size = k := by simpa using hk
                            exact ⟨h3, fun q => by have := H2.out.low k (H2.out.xs k q); omega, fun q => by have := H2.out.low pe H2.out.xp; omega, .inr (by show _ ≤ _; omega)⟩
                        clear hb9 hW9
                        have hbz9 := HB.out.fresh hF9
                        clear hy3 hz3 hpl
                        have hy3 := hbz9.cell 3
                        simp only [List.getElem?_toArray, List.getElem?_cons_zero, List.getElem?_cons_succ] at hy3
                        have hpl := hbz9.lt
                        have hz3 := hbz9.frozen 3
                        have hS9 : w9.cell? ⟨pe, 3, none⟩ = some (.slice (some ⟨gA, oA, none⟩) l1.length co1) ∧ pe < w9.heap.size := ⟨hy3, hpl⟩
                        have hm9 : l9.map (·.q) = E1.opn.take i ++ E1.opn.drop (i + 1) := by rw [hl9, List.map_append, List.map_take, List.map_drop, HSM.out]
                        have h10 := (H2.out.fresh hF9).seto hA9 (fun k hk => ⟨(hY9 k hk).1, (hY9 k hk).2.1, (hY9 k hk).2.2.1⟩) hm9 (fun y hy => by
                          rw [hl9] at hy
                          rcases List.mem_append.1 hy with q | q
                          · exact List.mem_of_mem_take q
                          · exact List.mem_of_mem_drop q) (by rw [← hm9, List.length_map, ← hll9]; have := HLL.out; simp only at this ⊢; omega)
                        have hF10 : Frm (Own X w) w (w9.setCell ⟨pe, 3, none⟩ (.slice A9 l9.length c9)) := (HF2.out.then_new (fun q hq => .inr hq) hF9).setCell (p := ⟨pe, 3, none⟩) (hsub.out pe H2.out.xp) _
                        have hs10 : ∀ k, X1 k ∨ M.blk A9 = some k → Own X w k := fun k hk => by
                          rcases hk with hk | hk
                          · exact hsub.out k hk
                          · rcases (hY9 k hk).2.2.2 with q | q
                            · exact hsub.out k q
                            · exact .inr (Nat.le_trans HF2.out.size q)
                        simp only at h10
                        have H10 := Lib.hid h10
                        have HF10 := Lib.hid hF10
                        have HS10 := Lib.hid hs10
                        have HL9 := Lib.hid hl9
                        have HM9 := Lib.hid hm9
                        have HLL9 := Lib.hid hll9
                        have HBZ9 := Lib.hid hbz9
                        have HF9 := Lib.hid hF9
                        clear h10 hF10 hs10 hl9 hm9 hll9 hbz9 hF9
                        clear hA9 hY9 hA3e
                        refine hKK.out _ _ (.inr hS9) ?_
                        clear hKK K hS0
                        refine wpAnyT_one (i := 16) rfl (by kernel_rfl) (fun K hK => ?_)
                        go_simp
                        refine hK.out _ _ (.inr (hS9)) ?_
                        clear hK K
                        refine wpAnyT_one (i := 17) rfl (by kernel_rfl) (fun K hK => ?_)
                        go_simp
                        refine hK.out _ _ (.inr (hS9)) ?_
                        clear hK K
                        refine wpAnyT_one (i := 18) rfl (by kernel_rfl) (fun K hK => ?_)
                        go_simp
                        refine hK.out _ _ (.inl (by kernel_rfl)) ?_
                        clear hK K
                        refine wpAnyT_done (by kernel_rfl) ?_ _
                        clear hy3 hz3 hpl hS9
                        generalize w9.setCell ⟨pe, 3, none⟩ (.slice A9 l9.length c9) = w10 at *
                        go_wp2
                        go_meet
                        exact ⟨true, { E1 with known := mk, opn := E1.opn.take i ++ E1.opn.drop (i + 1) }, _, A9, c9, l9, rfl, Lib.hid (by rw [HIN3.out]; rfl), Lib.hid (fun e => by cases e), he1, H10, HF10, HS10⟩
                    · have hysi : ¬ (y.q.stream : Int) = (n : Int) := by omega
                      have hno2 : ∀ j (hj : j < i + 1) (hjl : j < l1.length), l1[j].q.stream ≠ n := fun j hj hjl => by
                        by_cases hji : j = i
                        · subst hji
                          rw [← hyl]
                          exact hys
                        · exact hno.out j (by omega) hjl
                      have HNO2 := Lib.hid hno2
                      have HYL := Lib.hid hyl
                      have HNO := Lib.hid hno
                      clear hno2 hyl hno
                      go_wp2
                      go_roundg (gk - 1)
                      case measure => omega
                      case rel => exact ⟨i + 1, rfl, by rw [Int.natCast_add]; rfl, by omega, HNO2, rfl⟩
                  · have hili : ¬ (i : Int) < (l1.length : Int) := by omega
                    obtain rfl : i = l1.length := by omega
                    have hack : ackGo n E1.opn = none := ackGo_absent E1.opn (fun o ho => by
                      rw [← HSM.out] at ho
                      obtain ⟨y, hy, rfl⟩ := List.mem_map.1 ho
                      obtain ⟨j, hj, rfl⟩ := List.getElem_of_mem hy
                      exact hno.out j hj hj)
                    have hin3 : E1.ins r = (26, k, E1) := by rw [HIN2.out, hack]
                    clear HIN2 hack
                    have HIN3 := Lib.hid hin3
                    have HNO := Lib.hid hno
                    clear hin3 hno
                    go_wp2
                    go_meet
                    exact ⟨false, E1, X1, Ao1, co1, l1, rfl, Lib.hid (by rw [HIN3.out]; rfl), Lib.hid (fun _ => rfl), he1, H1, HFW, hsub⟩
            case rest =>
              obtain ⟨ok, E2, X2, Ao2, co2, l2, rfl, hi2, heq2, he2, hQ2, hF2, hs2⟩ := hcut
              rename World => w2
              clear hy4 hy5 hz5 hpl HIN2 H1 HB1 HFW
              have hb2 := hQ2.out.blk
              simp only at hb2
              have hy4 := hb2.cell 4
              have hy5 := hb2.cell 5
              simp only [List.getElem?_toArray, List.getElem?_cons_zero, List.getElem?_cons_succ] at hy4 hy5
              have hz4 := hb2.frozen 4
              have hz5 := hb2.frozen 5
              have hpl := hb2.lt
              cases ok with
              | false =>
                have hEq := heq2.out rfl
                subst hEq
                have hZ4 : Z = (26, { E2 with rest := r, err := 26 }) := by rw [HZK2.out, hi2.out]; rfl
                have h3 := hQ2.out.seterr 26
                have hF3 := hF2.out.setCell (p := ⟨pe, 5, none⟩) (hs2.out pe hQ2.out.xp) (.int .i64 ((26 : Nat) : Int))
                have HB2 := Lib.hid hb2
                have H3 := Lib.hid h3
                have HF3 := Lib.hid hF3
                have HS2 := Lib.hid hs2
                have HZ4 := Lib.hid hZ4
                clear hb2 h3 hF3 hs2 hZ4
                clear hi2 heq2
                go_wp2
                go_ret
                rw [HZ4.out]
                exact ⟨rfl, X2, S, Ao2, co2, l2, _, c1, H3.out, HF3.out, HS2.out.out⟩
              | true =>
                have hZ4 : Z = feedN f E2 (r.drop k) := by rw [HZK2.out, hi2.out]; rfl
                obtain ⟨r1, hr1⟩ : ∃ r1, r1 = r.drop k := ⟨_, rfl⟩
                have hdl : r1.length = r.length - k := by rw [hr1, List.length_drop]
                have hA3 := hQ2.out.rest.from_ k hk2
                have hblk3 : ∀ kk, M.blk (if c1 = k then (some ⟨gb, off, none⟩ : Option Addr) else (some ⟨gb, off, none⟩ : Option Addr).map (·.add (k * 1))) = some kk → M.blk (some (⟨gb, off, none⟩ : Addr)) = some kk := fun kk hk => by rw [cut_blk] at hk; exact hk
                obtain ⟨A3, hA3e⟩ : ∃ A3, A3 = (if c1 = k then (some ⟨gb, off, none⟩ : Option Addr) else (some ⟨gb, off, none⟩ : Option Addr).map (·.add (k * 1))) := ⟨_, rfl⟩
                simp only at hA3
                rw [← hA3e] at hA3 hblk3
                rw [← hdl, show (bvs r).drop (k * 1) = bvs r1 by rw [Nat.mul_one, hr1]; simp [bvs]] at hA3
                rw [Nat.mul_one] at hA3e
                have h3 := hQ2.out.setr hA3 (fun kk hk => ⟨hQ2.out.low kk (hQ2.out.rr kk (hblk3 kk hk)).1, (hQ2.out.rr kk (hblk3 kk hk)).2⟩) (by omega)
                have hF3 := hF2.out.setCell (p := ⟨pe, 4, none⟩) (hs2.out pe hQ2.out.xp) (.slice A3 r1.length (c1 - k))
                have hs3 : ∀ kk, (X2 kk ∨ M.blk A3 = some kk) → Own X w kk := fun kk hk => by
                  rcases hk with hk | hk
                  · exact hs2.out kk hk
                  · exact hs2.out kk (hQ2.out.rr kk (hblk3 kk hk)).1
                rw [← hr1] at hZ4
                simp only at h3
                rw [hdl] at h3 hF3
                have HB2 := Lib.hid hb2
                have H3 := Lib.hid h3
                have HF3 := Lib.hid hF3
                have HS3 := Lib.hid hs3
                have HZ4 := Lib.hid hZ4
                have HA3E := Lib.hid hA3e
                have HDL := Lib.hid hdl
                clear hb2 h3 hF3 hs3 hZ4 hA3e hdl
                clear hi2 heq2 hA3 hblk3 hQ2 hF2 hs2
                go_wp2_with (refine wpList_val rfl (.slice A3 (r.length - k) (c1 - k)) (by rw [HA3E.out]; exact run_from rfl rfl rfl rfl hk2) ?_)
                go_roundg (gk - 1)
                case measure => omega
                case rel => exact ⟨r1, E2, _, Ao2, co2, l2, A3, c1 - k, by have := HDL.out; omega, by have := HDL.out; omega, he2, H3, (show gk - 1 = f by omega) ▸ HZ4, HF3, HS3⟩
      · skip
        as_aux_lemma =>
          have hmk := HMASK.out true (decide_eq_true (by have := HX8.out; omega))
          obtain ⟨hm1, hm2⟩ := hmk
          simp only [Bool.not_true] at hm2
          obtain ⟨z, hz⟩ : ∃ z, z = rdp r 6 := ⟨_, rfl⟩
          have hrg := rdp_range r 6 (by decide)
          have hrd : Calls Try.prog 62 #[.slice (some ⟨gb, off, none⟩) r.length c1, .int .i64 6] wx fun e w3 => e = .returned (.tuple #[.int .u64 (z.1 : Int), .int .i64 (z.2.1 : Int), .int .i64 (z.2.2 : Int)]) ∧ ∃ q, w3 = wx.drewN q := by
            rw [hz]
            exact rrdp_any r (some ⟨gb, off, none⟩) c1 6 wx hQ.out.rest.rd (by omega) (by omega) (by omega)
          rw [← hz] at hrg
          have hin : E1.ins r = if z.2.2 ≠ 0 then (z.2.2, 0, E1) else (if 64 ≤ hd8 then (0, z.2.1, { E1 with opn := E1.opn.filter fun o => decide (o.stream ≠ z.1) }) else if z.1 = 0 ∨ E1.t.n - E1.known < z.1 then (26, z.2.1, E1) else (0, z.2.1, { E1 with known := E1.known + z.1 })) := by
            unfold Qn.ins
            rw [← HHD8.out]
            simp only [if_neg hq7, ← hz]
          obtain ⟨n, k, e2⟩ := z
          simp only at hrg hrd hin
          have HRD := Lib.hid hrd
          have HIN := Lib.hid hin
          have HZ := Lib.hid hz
          have HBX := Lib.hid hbx
          clear hrd hin hz hbx
          go_wp2_with (fail)
          refine HRD.out.mono ?_
          rintro e w1 ⟨rfl, nq, hnq⟩
          have hF1 : Frm (New wx) wx w1 := by rw [hnq]; exact (Frm.refl _ _).drewN _
          clear hnq
          have h1 := hQ.out.fresh hF1
          have hFw := hF.out.then_new (fun q hq => .inr hq) hF1
          clear hy4 hy5 hpl hxc hgl HRD HBX
          have hb1 := h1.blk
          have hy4 := hb1.cell 4
          have hy5 := hb1.cell 5
          simp only [List.getElem?_toArray, List.getElem?_cons_zero, List.getElem?_cons_succ] at hy4 hy5
          have hz5 := hb1.frozen 5
          have hpl := hb1.lt
          rw [show ({ E1 with rest := r } : Qn).err = 0 from he1] at hy5
          by_cases he : e2 = 0
          rotate_left
          · have hei : ((e2 : Int) == 0) = false := by rw [beq_eq_false_iff_ne]; omega
            have hin2 : E1.ins r = (e2, 0, E1) := by rw [HIN.out, if_pos he]
            by_cases he20 : e2 = 20
            · subst he20
              have hZ4 : Z = (0, { E1 with rest := r }) := by rw [HZK2.out, hin2, if_neg (by simp), if_pos rfl]
              have H1 := Lib.hid h1
              have HB1 := Lib.hid hb1
              have HFW := Lib.hid hFw
              have HSUB := Lib.hid hsub
              have HZ4 := Lib.hid hZ4
              clear h1 hb1 hFw hsub hZ4
              clear hin2
              go_wp2
              go_ret
              rw [HZ4.out]
              exact ⟨rfl, X1, S, Ao1, co1, l1, _, c1, H1.out, HFW.out, HSUB.out.out⟩
            · have he20i : ((e2 : Int) == 20) = false := by rw [beq_eq_false_iff_ne]; omega
              have hZ4 : Z = (e2, { E1 with rest := r, err := e2 }) := by rw [HZK2.out, hin2, if_neg he, if_neg he20]
              have h2 := h1.seterr e2
              have hF2 := hFw.setCell (p := ⟨pe, 5, none⟩) (hsub.out pe hQ.out.xp) (.int .i64 (e2 : Int))
              have H2 := Lib.hid h2
              have HB1 := Lib.hid hb1
              have HF2 := Lib.hid hF2
              have HSUB := Lib.hid hsub
              have HZ4 := Lib.hid hZ4
              clear h2 hb1 hF2 hsub hZ4
              clear hin2
              go_wp2
              go_ret
              rw [HZ4.out]
              exact ⟨rfl, X1, S, Ao1, co1, l1, _, c1, H2.out, HF2.out, HSUB.out.out⟩
          · subst he
            obtain ⟨hk1, hk2, hnr⟩ := hrg rfl
            have hin2 := HIN.out
            rw [if_neg (by simp)] at hin2
            clear HIN
            have HIN2 := Lib.hid hin2
            have H1 := Lib.hid h1
            have HB1 := Lib.hid hb1
            have HFW := Lib.hid hFw
            clear hin2 h1 hb1 hFw
            go_upto_block 2 with (fail)
            go_cut [9, 10, 11, 12] from 74 to 199 (fun v9 v10 v11 v12 w' => ∃ (ok : Bool) (E2 : Qn) (X2 : Nat → Prop) (Ao2 : Option Addr) (co2 : Nat) (l2 : List Ou), v9 = .bool ok ∧ Hid (E1.ins r = if ok = true then (0, k, E2) else (26, k, E1)) ∧ Hid (ok = false → E2 = E1) ∧ E2.err = 0 ∧ Hid (OnM X2 w' pe g S Ao2 co2 l2 (some ⟨gb, off, none⟩) c1 { E2 with rest := r }) ∧ Hid (Frm (Own X w) w w') ∧ Hid (∀ k, X2 k → Own X w k))
            case first =>
              as_aux_lemma =>
                obtain ⟨gb2, off2, hAe2, hx0⟩ := H1.out.rest.rd.at_ (k := 0) (by rw [bvs_length]; exact hr0)
                cases hAe2
                have hxc : w1.cell? ⟨gb, off, none⟩ = some (.int .u8 (hd8 : Int)) := by
                  rw [Nat.add_zero] at hx0
                  rw [hx0, HHD8.out]
                  cases r with
                  | nil => simp at hr0
                  | cons x t => rfl
                clear hx0
                have hgl := World.block_lt_of_cell? _ _ hxc
                simp only at hgl
                have hx8 := HX8.out
                by_cases hq6 : 64 ≤ hd8
                · have ea : (bits .and .u8 (hd8 : Int) 64 == 0) = false := (mask_is (x := hd8) (m := 64) (b := false) HX8.out (.inr (.inl rfl)) (decide_eq_false (by omega))).1
                  have eb : (bits .and .u8 (hd8 : Int) 64 != 0) = true := (mask_is (x := hd8) (m := 64) (b := false) HX8.out (.inr (.inl rfl)) (decide_eq_false (by omega))).2
                  have hin3 : E1.ins r = (0, k, { E1 with opn := E1.opn.filter fun o => decide (o.stream ≠ n) }) := by rw [HIN2.out, if_pos hq6]
                  clear HIN2
                  have HIN3 := Lib.hid hin3
                  clear hin3
                  as_aux_lemma =>
                    have hlm := Nat.le_trans H1.out.oc H1.out.om
                    simp only [maxLen] at hlm
                    have hR := H1.out.opn.rd
                    have hsm := H1.out.same
                    have hll := H1.out.len
                    have hola := H1.out.ol
                    simp only at hsm hll hola
                    have hu := Up.new (w := w1)
                    have HR := Lib.hid hR
                    have HSM := Lib.hid hsm
                    have HLL := Lib.hid hll
                    have HOLA := Lib.hid hola
                    clear hR hsm hll hola
                    go_wp2_with (fail)
                    go_loopg [11, 12] l1.length (fun kk v11 v12 wx => ∃ (i : Nat) (A2 : Option Addr) (lf : List Ou) (c2 : Nat), v11 = .slice A2 lf.length c2 ∧ v12 = .int .i64 (i : Int) ∧ i + kk = l1.length ∧ Hid (lf = (l1.take i).filter fun y => decide (y.q.stream ≠ n)) ∧ Hid (App (New w1) wx 118 3 A2 lf.length c2 (ocC lf)) ∧ Hid (∀ k, M.blk A2 = some k → k < wx.heap.size) ∧ Hid (Frm (New w1) w1 wx))
                    case atStart => exact ⟨0, none, [], 0, rfl, rfl, by omega, Lib.hid rfl, Lib.hid App.none_, Lib.hid (fun k hk => by cases hk), Lib.hid (Frm.refl _ _)⟩
                    case round =>
                      obtain ⟨i, A2, lf, c2, rfl, rfl, hi, hlf, hA2, hk2, hFx⟩ := hrel
                      rename World => wx
                      clear hy4 hy5 hz5 hpl
                      have hb := HB1.out.fresh hFx.out
                      have hy3 := hb.cell 3
                      simp only [List.getElem?_toArray, List.getElem?_cons_zero, List.getElem?_cons_succ] at hy3
                      have hz3 := hb.frozen 3
                      have hpl := hb.lt
                      clear hb
                      by_cases hil : i < l1.length
                      · have hili : (i : Int) < (l1.length : Int) := by omega
                        have hRx : Rd wx Ao1 (ocC l1) := (H1.out.fresh hFx.out).opn.rd
                        obtain ⟨gA, oA, hAe, hjunk⟩ := hRx.at_ (k := i * 3) (by rw [ocC_len]; omega)
                        subst hAe
                        clear hjunk
                        obtain ⟨hc0, hc1, hc2⟩ := ou_cells hRx i hil
                        have hgl := World.block_lt_of_cell? _ _ hc0
                        simp only at hgl
                        obtain ⟨y, hyl⟩ : ∃ y, y = l1[i] := ⟨_, rfl⟩
                        rw [← hyl] at hc0 hc1 hc2
                        have htk : (l1.take (i + 1)).filter (fun z => decide (z.q.stream ≠ n)) = lf ++ (if y.q.stream ≠ n then [y] else []) := by
                          rw [List.take_add_one, List.getElem?_eq_getElem hil, ← hyl, hlf.out, Option.toList_some, List.filter_append, List.filter_cons, List.filter_nil]
                          by_cases q : y.q.stream = n <;> simp [q]
                        clear hRx
                        by_cases hys : y.q.stream = n
                        · rw [if_neg (by simpa using hys), List.append_nil] at htk
                          rw [hys] at hc0
                          have hlf2 := htk.symm
                          have HLF2 := Lib.hid hlf2
                          have HYL := Lib.hid hyl
                          clear hlf2 hyl
                          clear hlf htk
                          go_wp2
                          go_roundg (gk - 1)
                          case measure => omega
                          case rel => exact ⟨i + 1, A2, lf, c2, rfl, by rw [Int.natCast_add]; rfl, by omega, HLF2, hA2, hk2, hFx⟩
                        · rw [if_pos hys] at htk
                          have hysi : ¬ (y.q.stream : Int) = (n : Int) := by omega
                          have hlf2 := htk.symm
                          have hlfl : lf.length ≤ i := by rw [hlf.out]; exact Nat.le_trans (List.length_filter_le _ _) (by rw [List.length_take]; omega)
                          have hApp := hA2.out
                          have hUp : Up (New w1) wx := Up.new.of hFx.out.size
                          have hHA := HOLA.out
                          have hHL := HLL.out
                          have HLF2 := Lib.hid hlf2
                          have HYL := Lib.hid hyl
                          have HAPP := Lib.hid hApp
                          have HUP := Lib.hid hUp
                          clear hlf2 hyl hApp hUp
                          clear hlf htk hA2
                          go_wp2_with (at_builtin; refine wpList_append_lit osE rfl rfl rfl HAPP.out HUP.out rfl rfl (ou_one y) (by omega) ?_; intro A3 c3 w3 hA3 hF3 _ _; rw [ocC_snoc] at hA3)
                          have hk3 : ∀ k, M.blk A3 = some k → k < w3.heap.size := app_lt hA3 (by intro e; have := congrArg List.length e; rw [ocC_len] at this; simp at this)
                          have hF3' := hFx.out.trans hF3
                          rw [show lf.length + 1 = (lf ++ [y]).length by rw [List.length_append]; rfl] at hA3
                          have HA3 := Lib.hid hA3
                          have HK3 := Lib.hid hk3
                          have HF3' := Lib.hid hF3'
                          clear hA3 hk3 hF3'
                          go_roundg (gk - 1)
                          case measure => omega
                          case rel => exact ⟨i + 1, A3, lf ++ [y], c3, by rw [List.length_append]; rfl, by rw [Int.natCast_add]; rfl, by omega, HLF2, HA3, HK3, HF3'⟩
                      · have hili : ¬ (i : Int) < (l1.length : Int) := by omega
                        obtain rfl : i = l1.length := by omega
                        have hlfe := hlf.out
                        rw [List.take_length] at hlfe
                        have hqf : lf.map (·.q) = E1.opn.filter fun o => decide (o.stream ≠ n) := by rw [hlfe, filt_q (fun o => decide (o.stream ≠ n)), HSM.out]
                        have h2 := (H1.out.fresh hFx.out).seto hA2.out (fun k hk => by
                          have h3 := hA2.out.inM k hk
                          have h4 : w1.heap.size ≤ k := h3
                          exact ⟨hk2.out k hk, fun e => by have := H1.out.low k (H1.out.xs k e); omega, fun e => by have := H1.out.low pe H1.out.xp; omega⟩) hqf (fun y hy => by rw [hlfe] at hy; exact (List.mem_filter.1 hy).1) (by rw [← hqf]; simp only; rw [List.length_map, hlfe, ← HLL.out]; exact List.length_filter_le _ _)
                        simp only at h2
                        have hF2 : Frm (Own X w) w (wx.setCell ⟨pe, 3, none⟩ (.slice A2 lf.length c2)) := (HFW.out.then_new (fun q hq => .inr hq) hFx.out).setCell (p := ⟨pe, 3, none⟩) (hsub.out pe H1.out.xp) _
                        have hs2 : ∀ k, X1 k ∨ M.blk A2 = some k → Own X w k := fun k hk => by
                          rcases hk with hk | hk
                          · exact hsub.out k hk
                          · have h3 : w1.heap.size ≤ k := hA2.out.inM k hk
                            exact .inr (Nat.le_trans HFW.out.size h3)
                        have H2 := Lib.hid h2
                        have HF2 := Lib.hid hF2
                        have HS2 := Lib.hid hs2
                        have HLFE := Lib.hid hlfe
                        have HQF := Lib.hid hqf
                        clear h2 hF2 hs2 hlfe hqf
                        clear hlf hA2 hk2 hFx
                        go_wp2
                        go_meet
                        exact ⟨true, { E1 with opn := E1.opn.filter fun o => decide (o.stream ≠ n) }, _, A2, c2, lf, rfl, Lib.hid (by rw [HIN3.out]; rfl), Lib.hid (fun e => by cases e), he1, H2, HF2, HS2⟩
                · have ea : (bits .and .u8 (hd8 : Int) 64 == 0) = true := (mask_is (x := hd8) (m := 64) (b := true) HX8.out (.inr (.inl rfl)) (decide_eq_true (by omega))).1
                  have eb : (bits .and .u8 (hd8 : Int) 64 != 0) = false := (mask_is (x := hd8) (m := 64) (b := true) HX8.out (.inr (.inl rfl)) (decide_eq_true (by omega))).2
                  have hin3 := HIN2.out
                  rw [if_neg hq6] at hin3
                  clear HIN2
                  have HIN3 := Lib.hid hin3
                  clear hin3
                  as_aux_lemma =>
                    have hin3 := HIN3.out
                    clear HIN3
                    have hb1 := HB1.out
                    have hkn := H1.out.kn
                    have hnb := H1.out.nb
                    simp only at hkn hnb
                    have hy0 := hb1.cell 0
                    have hy2 := hb1.cell 2
                    simp only [List.getElem?_toArray, List.getElem?_cons_zero, List.getElem?_cons_succ] at hy0 hy2
                    have hz2 := hb1.frozen 2
                    obtain ⟨At, ct, hrt⟩ := H1.out.tab
                    have htb := hrt.blk
                    simp only at htb
                    have ht2 := htb.cell 2
                    simp only [List.getElem?_toArray, List.getElem?_cons_zero, List.getElem?_cons_succ] at ht2
                    have htl := htb.lt
                    clear hrt htb
                    obtain ⟨d, hd⟩ : ∃ d, d = E1.t.n - E1.known := ⟨_, rfl⟩
                    have hwd : IntKind.u64.wrap ((E1.t.n : Int) - (E1.known : Int)) = (d : Int) := by rw [IntWalk.u64_in _ (by omega)]; omega
                    have hdl : d + E1.known = E1.t.n := by omega
                    rw [← hd] at hin3
                    by_cases hn0 : n = 0 ∨ d < n
                    · have hin4 : E1.ins r = (26, k, E1) := by rw [hin3, if_pos hn0]
                      clear hin3
                      have HIN4 := Lib.hid hin4
                      have HD := Lib.hid hd
                      clear hin4 hd
                      by_cases hn1 : n = 0
                      · subst hn1
                        clear hn0
                        go_upto_region 15 with (fail)
                        go_quiet (fail)
                        all_goals go_wp2
                        all_goals go_meet
                        all_goals exact ⟨false, E1, X1, Ao1, co1, l1, rfl, Lib.hid (by rw [HIN4.out]; rfl), Lib.hid (fun _ => rfl), he1, Lib.hid (H1.out.fresh ((Frm.refl _ _).drewN _)), Lib.hid (HFW.out.drewN _), hsub⟩
                      · have hni : 0 < n := by omega
                        have hnd : ¬ n ≤ d := by omega
                        go_upto_region 15 with (fail)
                        go_quiet (fail)
                        all_goals go_wp2
                        all_goals go_meet
                        all_goals exact ⟨false, E1, X1, Ao1, co1, l1, rfl, Lib.hid (by rw [HIN4.out]; rfl), Lib.hid (fun _ => rfl), he1, Lib.hid (H1.out.fresh ((Frm.refl _ _).drewN _)), Lib.hid (HFW.out.drewN _), hsub⟩
                    · obtain ⟨kn, hk⟩ : ∃ kn, kn = E1.known + n := ⟨_, rfl⟩
                      have hin4 : E1.ins r = (0, k, { E1 with known := kn }) := by rw [hin3, if_neg hn0, hk]
                      have hwk : IntKind.u64.wrap ((E1.known : Int) + (n : Int)) = (kn : Int) := by rw [IntWalk.u64_in _ (by omega)]; omega
                      have hkl : kn ≤ E1.t.n := by omega
                      have hni : 0 < n := by omega
                      have hnd : n ≤ d := by omega
                      clear hin3
                      have HIN4 := Lib.hid hin4
                      have HD := Lib.hid hd
                      have HK := Lib.hid hk
                      clear hin4 hd hk
                      go_upto_region 15 with (fail)
                      go_quiet (fail)
                      all_goals go_wp2
                      all_goals go_meet
                      all_goals exact ⟨true, { E1 with known := kn }, X1, Ao1, co1, l1, rfl, Lib.hid (by rw [HIN4.out]; rfl), Lib.hid (fun e => by cases e), he1, Lib.hid ((H1.out.fresh ((Frm.refl _ _).drewN _)).setknown kn hkl), Lib.hid ((HFW.out.drewN _).setCell (p := ⟨pe, 2, none⟩) (hsub.out pe H1.out.xp) _), hsub⟩
            case rest =>
              obtain ⟨ok, E2, X2, Ao2, co2, l2, rfl, hi2, heq2, he2, hQ2, hF2, hs2⟩ := hcut
              rename World => w2
              clear hy4 hy5 hz5 hpl HIN2 H1 HB1 HFW
              have hb2 := hQ2.out.blk
              simp only at hb2
              have hy4 := hb2.cell 4
              have hy5 := hb2.cell 5
              simp only [List.getElem?_toArray, List.getElem?_cons_zero, List.getElem?_cons_succ] at hy4 hy5
              have hz4 := hb2.frozen 4
              have hz5 := hb2.frozen 5
              have hpl := hb2.lt
              cases ok with
              | false =>
                have hEq := heq2.out rfl
                subst hEq
                have hZ4 : Z = (26, { E2 with rest := r, err := 26 }) := by rw [HZK2.out, hi2.out]; rfl
                have h3 := hQ2.out.seterr 26
                have hF3 := hF2.out.setCell (p := ⟨pe, 5, none⟩) (hs2.out pe hQ2.out.xp) (.int .i64 ((26 : Nat) : Int))
                have HB2 := Lib.hid hb2
                have H3 := Lib.hid h3
                have HF3 := Lib.hid hF3
                have HS2 := Lib.hid hs2
                have HZ4 := Lib.hid hZ4
                clear hb2 h3 hF3 hs2 hZ4
                clear hi2 heq2
                go_wp2
                go_ret
                rw [HZ4.out]
                exact ⟨rfl, X2, S, Ao2, co2, l2, _, c1, H3.out, HF3.out, HS2.out.out⟩
              | true =>
                have hZ4 : Z = feedN f E2 (r.drop k) := by rw [HZK2.out, hi2.out]; rfl
                obtain ⟨r1, hr1⟩ : ∃ r1, r1 = r.drop k := ⟨_, rfl⟩
                have hdl : r1.length = r.length - k := by rw [hr1, List.length_drop]
                have hA3 := hQ2.out.rest.from_ k hk2
                have hblk3 : ∀ kk, M.blk (if c1 = k then (some ⟨gb, off, none⟩ : Option Addr) else (some ⟨gb, off, none⟩ : Option Addr).map (·.add (k * 1))) = some kk → M.blk (some (⟨gb, off, none⟩ : Addr)) = some kk := fun kk hk => by rw [cut_blk] at hk; exact hk
                obtain ⟨A3, hA3e⟩ : ∃ A3, A3 = (if c1 = k then (some ⟨gb, off, none⟩ : Option Addr) else (some ⟨gb, off, none⟩ : Option Addr).map (·.add (k * 1))) := ⟨_, rfl⟩
                simp only at hA3
                rw [← hA3e] at hA3 hblk3
                rw [← hdl, show (bvs r).drop (k * 1) = bvs r1 by rw [Nat.mul_one, hr1]; simp [bvs]] at hA3
                rw [Nat.mul_one] at hA3e
                have h3 := hQ2.out.setr hA3 (fun kk hk => ⟨hQ2.out.low kk (hQ2.out.rr kk (hblk3 kk hk)).1, (hQ2.out.rr kk (hblk3 kk hk)).2⟩) (by omega)
                have hF3 := hF2.out.setCell (p := ⟨pe, 4, none⟩) (hs2.out pe hQ2.out.xp) (.slice A3 r1.length (c1 - k))
                have hs3 : ∀ kk, (X2 kk ∨ M.blk A3 = some kk) → Own X w kk := fun kk hk => by
                  rcases hk with hk | hk
                  · exact hs2.out kk hk
                  · exact hs2.out kk (hQ2.out.rr kk (hblk3 kk hk)).1
                rw [← hr1] at hZ4
                simp only at h3
                rw [hdl] at h3 hF3
                have HB2 := Lib.hid hb2
                have H3 := Lib.hid h3
                have HF3 := Lib.hid hF3
                have HS3 := Lib.hid hs3
                have HZ4 := Lib.hid hZ4
                have HA3E := Lib.hid hA3e
                have HDL := Lib.hid hdl
                clear hb2 h3 hF3 hs3 hZ4 hA3e hdl
                clear hi2 heq2 hA3 hblk3 hQ2 hF2 hs2
                go_wp2_with (refine wpList_val rfl (.slice A3 (r.length - k) (c1 - k)) (by rw [HA3E.out]; exact run_from rfl rfl rfl rfl hk2) ?_)
                go_roundg (gk - 1)
                case measure => omega
                case rel => exact ⟨r1, E2, _, Ao2, co2, l2, A3, c1 - k, by have := HDL.out; omega, by have := HDL.out; omega, he2, H3, (show gk - 1 = f by omega) ▸ HZ4, HF3, HS3⟩
end Go.Proofs.Ytdgggjeiflllhaa.M

