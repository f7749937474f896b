/- dyn.Table.Add of one field. No condition but sizes. -/
import Derived.Test.YtcebckkpablagaaTfit
import Derived.Test.YtcebckkpablagaaArr
import Derived.Test.YtcebckkpablagaaMap
import Derived.Deep.RegionLaw
import Derived.Deep.RegionHeld3
namespace Go.Proofs.Ytcebckkpablagaa.M
open Go.ChangeShapes Go.WideShapes Go.ChangeAt Go.RowKit

theorem flds : Elem Try.prog 27 30 2 32 :=
  ⟨by kernel_rfl, by
    have h : (Try.prog.info? 30).map (fun i => (i.zero, i.size, i.bytes)) = some (some (.agg #[.string ⟨#[]⟩, .string ⟨#[]⟩]), 2, 32) := by kernel_rfl
    obtain ⟨i, hi, hz, hs, hb⟩ := info_parts h
    exact ⟨i, _, hi, hz, hs, hb, rfl⟩, by omega, by omega⟩

theorem App.here {M : Nat → Prop} {w : World} {e size n c : Nat} {A : Option Addr} {xs : List Value} (h : App M w e size A n c xs) (hx : xs ≠ []) : App (fun k => M k ∧ k < w.heap.size) w e size A n c xs := by
  obtain ⟨g, off, rfl, hg⟩ := h.rd.lt hx
  exact { h with
    inM := fun k hk => ⟨h.inM k hk, by cases hk; exact hg⟩
    own := fun hn => by
      obtain ⟨g', off', cur, e1, b, d, f⟩ := h.own hn
      cases e1
      exact ⟨g, off, cur, rfl, b, d, f, hg⟩ }

/-- append as one step of a region that draws its order; it tells which block the slice is in -/
theorem step_append2 {P : Program} {ops : Array Oper} {o : Oper} {a : Act} {Q : Exit → Act → World → Prop} {w : World} {M : Nat → Prop} {t e : TypeId} {size bytes : Nat} {K : Act → World → Prop} {E0 : Prop} (E : Elem P t e size bytes) (hgd : o.guard = none) {s x : Operand} (ho : o.op = .call { callee := .builtin .append, args := #[s, x], argTypes := #[t, t] })
    {A : Option Addr} {n c : Nat} {xs : List Value} (hs : a.eval s = .slice A n c) (hA : App M w e size A n c xs) (hu : Up M w)
    {B : Option Addr} {m d : Nat} {news : List Value} (hx : a.eval x = .slice B m d) (hB : Rd w B news) (hl : news.length = m * size) (h1 : ∀ u ∈ news, u.oneCell' = true) (hbytes : (n + m) * bytes ≤ 140737488355328)
    (h : ∀ A' c' w', App M w' e size A' (n + m) c' (xs ++ news) → Frm M w w' → ((blk A' = blk A ∧ c' = c) ∨ (blk A' = some w.heap.size ∧ 0 < m)) → Frm (Wr A n c w) w w' → K (a.put o.dst (.slice A' (n + m) c')) w') :
    if Region.wanted o (yielded ops a.tmps) = true then Oper.wp P o a w K Q else E0 := by
  rw [if_pos (by simp [Region.wanted, hgd])]
  obtain ⟨A', c', w', hr, h2, h3, h4, h5⟩ := run_append_slice E w o.type hA hu hB hl h1 hbytes (d := d)
  unfold Oper.wp execOp
  simp only [ho, resolve, invoke, builtin, Sem.run_bind, Sem.run_pure, Result.andThen_ok, List.map_toArray, List.map_cons, List.map_nil, hs, hx, hr]
  exact h _ _ _ h2 h3 h4 h5

theorem add_step {S : Nat → Prop} {g n cap c1 a b bx c4 : Nat} {l1 : List Fld} {A1 A4 : Option Addr} {ew1 : List (Fld × Value)} {en1 : List (Bytes × Value)} {w3 W w4 : World} {t : TypeId} {cs : Array Value} (hT : TabAt S w3 g l1 n cap A1 c1 a b ew1 en1)
    (hB : Blk w3 bx t cs) (hS : ∀ k, S k → k < bx) (hblk : (blk A4 = blk A1 ∧ c4 = c1) ∨ (blk A4 = some W.heap.size ∧ 0 < 1)) (hWr : Frm (Wr A1 l1.length c1 W) W w4) (hF : Frm (New w3) w3 W) :
    Hid (Blk w4 g 103 #[.slice A1 l1.length c1, .int .u64 n, .int .i64 cap, .int .i64 (fsizes l1 : Nat), .map (some a), .map (some b)]) ∧ Hid (Blk w4 bx t cs) ∧ Hid (MapIs w4 a fld ew1) ∧ Hid (MapIs w4 b str en1) ∧ Hid (∀ k, blk A4 = some k → k ≠ g ∧ k ≠ a ∧ k ≠ b) := by
  have hs := hF.size
  have h1 := hT.mw.lt
  have h2 := hT.mn.lt
  have h3 := hT.blk.lt
  refine ⟨(hT.blk.fresh hF).keep hWr ?_, (hB.fresh hF).keep hWr ?_, (hT.mw.fresh hF).keep hWr ?_, (hT.mn.fresh hF).keep hWr ?_, fun k hk => ?_⟩
  · rintro (c | ⟨_, c⟩)
    · omega
    · exact (hT.gA _ c).1 rfl
  · rintro (c | ⟨_, c⟩)
    · have := hB.lt; omega
    · have := hS _ (hT.app.inM _ c); omega
  · rintro (c | ⟨_, c⟩)
    · omega
    · exact (hT.gA _ c).2.1 rfl
  · rintro (c | ⟨_, c⟩)
    · omega
    · exact (hT.gA _ c).2.2 rfl
  · rcases hblk with ⟨c, _⟩ | ⟨c, _⟩
    · exact hT.gA k (by rw [← c]; exact hk)
    · rw [hk] at c
      injection c with c
      omega

set_option maxRecDepth 100000 in
set_option maxHeartbeats 1000000 in
theorem add_any {S : Nat → Prop} {g n cap c a b : Nat} {l : List Fld} {A : Option Addr} {ew : List (Fld × Value)} {en : List (Bytes × Value)} (x : Fld) (F : Option Addr) (cf : Nat) (w : World)
    (h : TabAt S w g l n cap A c a b ew en) (hR : Rd w F (fvs [x])) (hF : ∀ k, blk F = some k → ¬ S k) (hn : n < 1152921504606846976) (hx : fsize x ≤ 1152921504606846976) (hc46 : cap ≤ 70368744177664) :
    Calls Try.prog 79 #[.pointer (some ⟨g, 0, none⟩), .slice F 1 cf] w fun e w' => (∃ m : Int, e = .returned (.int .i64 m)) ∧
      ∃ S' A' c' ew' en', TabAt S' w' g (Tb.add ⟨l, n, cap⟩ x).l (Tb.add ⟨l, n, cap⟩ x).n cap A' c' a b ew' en' ∧ Frm (Own S w) w w' ∧ ∀ k, S' k → Own S w k := by
  obtain ⟨gF, off, rfl, hx0⟩ := hR.at_ (k := 0) (by rw [fvs_length]; simp)
  clear hx0
  obtain ⟨hc1, hc2⟩ := fld_cells hR 0 (by simp)
  have hl : gF < w.heap.size := World.block_lt_of_cell? _ _ hc1
  simp only [Nat.zero_mul, Nat.add_zero, List.getElem_cons_zero] at hc1 hc2
  obtain ⟨x1, x2⟩ := x
  simp only [str] at hc1 hc2
  have H := Lib.hid h
  have HR := Lib.hid hR
  have HFR := Lib.hid hF
  clear h hR hF
  go_enter Try.func79, Try.ntmps79
  go_wp2
  refine wp_loop_rounds 2 ?_
  rw [rounds_succ]
  go_upto_region 5 with (fail)
  have HB : Blk (w.alloc (Obj.cells #[Value.string { data := List.toArray x1 }, Value.string { data := List.toArray x2 }] 30)) w.heap.size 30 #[Value.string { data := List.toArray x1 }, Value.string { data := List.toArray x2 }] := Blk.new w _ _
  have H0 : Frm (New w) w (w.alloc (Obj.cells #[Value.string { data := List.toArray x1 }, Value.string { data := List.toArray x2 }] 30)) := (Frm.refl _ _).alloc Up.new _
  have H1 := H.out.fresh H0
  have hbS : ∀ k, S k → k < w.heap.size := H.out.low
  clear hc1 hc2 hl H
  generalize w.alloc (Obj.cells #[Value.string { data := List.toArray x1 }, Value.string { data := List.toArray x2 }] 30) = w1 at *
  generalize hb : w.heap.size = bx at *
  have hxa := HB.cell 0
  have hxb := HB.cell 1
  have hb1 : bx < w1.heap.size := HB.lt
  simp only [List.getElem?_toArray, List.getElem?_cons_zero, List.getElem?_cons_succ] at hxa hxb
  have H0 := Lib.hid H0
  have H1 := Lib.hid H1
  have HB := Lib.hid HB
  have HBX := Lib.hid hb
  have HBS := Lib.hid hbS
  clear hb hbS
  have hs1 : Hid (fsizes [(x1, x2)] = fsize (x1, x2)) := by show _ = _; simp [fsizes]
  have HA : Hid (Tb.add ⟨l, n, cap⟩ (x1, x2) = if fsize (x1, x2) ≤ cap then ⟨evict (fsize (x1, x2)) cap l ++ [(x1, x2)], n + 1, cap⟩ else ⟨[], n, cap⟩) := rfl
  generalize hs : fsize (x1, x2) = s1 at *
  have HSX := Lib.hid hs
  clear hs
  have hm := evict_length s1 cap l
  have hlm : l.length ≤ n := H1.out.le
  have hcb : cap ≤ 1152921504606846976 := H1.out.cb
  by_cases hq : s1 ≤ cap
  · go_upto_region 8 with (first
      | (go_at_call 78
         refine (size_any [(x1, x2)] _ 1 _ (by exact Rd.new _ #[.string ⟨x1.toArray⟩, .string ⟨x2.toArray⟩] _) (by rw [hs1.out]; omega) (by simp)).mono ?_
         rintro e w2 ⟨rfl, hFs⟩
         have hT2 : Frm (New w1) w1 w2 := Frm.then_new ((Frm.refl _ _).alloc Up.new _) Up.new hFs
         have H2 := Lib.hid (H1.out.fresh hT2)
         have HB2 := Lib.hid (HB.out.fresh hT2)
         have hT2 := Lib.hid hT2
         clear hFs
         rw [hs1.out])
      | (go_at_call 83
         refine (fit_any s1 _ H2.out (by omega)).mono ?_
         rintro e w3 ⟨rfl, A1, c1, ew1, en1, hT3, hF3⟩
         have hd2 := hT3.blk.cell 2
         have hg3 : g < w3.heap.size := hT3.blk.lt
         simp only [List.getElem?_toArray, List.getElem?_cons_zero, List.getElem?_cons_succ] at hd2
         have HT3 := Lib.hid hT3
         have HF3 := Lib.hid hF3
         clear hT3 hF3
         have hfit := evict_fits s1 cap hq l
         generalize evict s1 cap l = l1 at *
         generalize hgm : l.length - l1.length = m at *
         have hm2 : m ≤ 1152921504606846976 := by omega
         clear hgm hm))
    have hB3 : Blk w3 bx 30 #[Value.string { data := List.toArray x1 }, Value.string { data := List.toArray x2 }] := HB2.out.keep HF3.out (fun c => by
      rcases c with c | c
      · have := HBS.out _ c; omega
      · have := HB2.out.lt; omega)
    have hb3 := HT3.out.blk
    have hd0 := hb3.cell 0
    have hxa := hB3.cell 0
    have hxb := hB3.cell 1
    have hbx3 : bx < w3.heap.size := hB3.lt
    simp only [List.getElem?_toArray, List.getElem?_cons_zero, List.getElem?_cons_succ] at hd0 hxa hxb
    have hA4 : App (Own S w3) w3 30 2 A1 l1.length c1 (fvs l1) := HT3.out.app.mono (fun k hk => .inl hk)
    have hl1 := len_fsizes l1
    have HB3 := Lib.hid hB3
    have hgx : g < bx := HBS.out g HT3.out.sg
    have hax : a < bx := HBS.out a HT3.out.sa
    have hbbx : b < bx := HBS.out b HT3.out.sb
    have HA4 := Lib.hid hA4
    clear hb3 hB3 hA4
    go_cut [11] from 11 to 77 (fun v11 w5 => v11 = .int .i64 0 ∧ ∃ A4 c4 w4, w5 = w4.setCell ⟨g, 0, none⟩ (.slice A4 (l1.length + 1) c4) ∧ Hid (App (Own S w3) w4 30 2 A4 (l1.length + 1) c4 (fvs l1 ++ [str x1, str x2])) ∧ Hid (Frm (Own S w3) w3 w4) ∧
      Hid (Blk w4 g 103 #[.slice A1 l1.length c1, .int .u64 n, .int .i64 cap, .int .i64 (fsizes l1 : Nat), .map (some a), .map (some b)]) ∧ Hid (Blk w4 bx 30 #[.string ⟨x1.toArray⟩, .string ⟨x2.toArray⟩]) ∧ Hid (MapIs w4 a fld ew1) ∧ Hid (MapIs w4 b str en1) ∧ Hid (∀ k, M.blk A4 = some k → k ≠ g ∧ k ≠ a ∧ k ≠ b))
    case first =>
      go_region_law (refine step_append2 (M := Own S w3) (news := [.string ⟨x1.toArray⟩, .string ⟨x2.toArray⟩]) flds rfl rfl rfl (by first | exact (HA4.out.alloc _).drew | exact HA4.out.drew.alloc _) (Up.of (Own.up S w3) (by simp)) rfl (by first | exact (Rd.new _ #[.string ⟨x1.toArray⟩, .string ⟨x2.toArray⟩] _).drew | exact Rd.new _ #[.string ⟨x1.toArray⟩, .string ⟨x2.toArray⟩] _) rfl (fun u hu => by simp at hu; rcases hu with rfl | rfl <;> rfl) (by omega) ?_; intro A4 c4 w4 hApp4 hF4 hblk4 hWr4; have hX := add_step HT3.out HB3.out HBS.out hblk4 hWr4 (by first | exact ((Frm.refl _ _).alloc Up.new _).drew | exact (Frm.refl _ _).drew.alloc Up.new _); have hz4 : w4.frozen? ⟨g, 0, none⟩ = false := hX.1.out.frozen 0; have hg4 : g < w4.heap.size := hX.1.out.lt; have hy4 := hX.1.out.cell 0; have HAPP := Lib.hid hApp4; have HF4 : Hid (Frm (Own S w3) w3 w4) := Frm.trans (by first | exact ((Frm.refl _ _).alloc (Own.up S w3) _).drew | exact (Frm.refl _ _).drew.alloc (Own.up S w3) _) hF4; have HX := Lib.hid hX; clear hApp4 hF4 hblk4 hWr4 hX)
      all_goals go_wp2
      all_goals go_meet
      all_goals exact ⟨rfl, A4, c4, w4, rfl, HAPP, HF4, HX.out.1, HX.out.2.1, HX.out.2.2.1, HX.out.2.2.2.1, HX.out.2.2.2.2⟩
    case rest =>
      obtain ⟨rfl, A4, c4, w4, rfl, HAPP, HF4, hb4, hbx4, hmw4, hmn4, hgA4⟩ := hcut
      replace hb4 := hb4.out
      replace hbx4 := hbx4.out
      replace hmw4 := hmw4.out
      replace hmn4 := hmn4.out
      replace hgA4 := hgA4.out
      have hs5 : (w4.setCell ⟨g, 0, none⟩ (.slice A4 (l1.length + 1) c4)).heap.size = w4.heap.size := by simp
      have hF5 : Frm (fun k => k = g ∨ k = a ∨ k = b) w4 (w4.setCell ⟨g, 0, none⟩ (.slice A4 (l1.length + 1) c4)) := (Frm.refl _ w4).setCell (.inl rfl) _
      have hb5 := hb4.set_ 0 (.slice A4 (l1.length + 1) c4)
      have hbx5 := hbx4.far (p := ⟨g, 0, none⟩) (by simp; omega) (.slice A4 (l1.length + 1) c4)
      have hmw5 := hmw4.keep ((Frm.refl (fun k => k = g) w4).setCell (p := ⟨g, 0, none⟩) rfl (.slice A4 (l1.length + 1) c4)) (fun c => HT3.out.ga c.symm)
      have hmn5 := hmn4.keep ((Frm.refl (fun k => k = g) w4).setCell (p := ⟨g, 0, none⟩) rfl (.slice A4 (l1.length + 1) c4)) (fun c => HT3.out.gb c.symm)
      clear hb4 hbx4 hmw4 hmn4 hd0 hxa hxb hbx3 hd2
      generalize w4.setCell ⟨g, 0, none⟩ (.slice A4 (l1.length + 1) c4) = w5 at *
      have hd3 := hb5.cell 3
      have hz3 := hb5.frozen 3
      have hg5 : g < w5.heap.size := hb5.lt
      generalize hz1 : fsizes l1 = z1 at *
      simp only [List.getElem?_toArray, List.getElem?_cons_zero, List.getElem?_cons_succ, List.setIfInBounds_toArray, List.set_cons_zero] at hd3
      have HZ1 := Lib.hid hz1
      have HB5 := Lib.hid hb5
      have HX5 := Lib.hid hbx5
      have HMW5 := Lib.hid hmw5
      have HMN5 := Lib.hid hmn5
      have HF5 := Lib.hid hF5
      have HGA := Lib.hid hgA4
      have HS5 := Lib.hid hs5
      clear hz1 hb5 hbx5 hmw5 hmn5 hF5 hgA4 hs5
      go_upto_region 10 with (fail)
      have hb6 := HB5.out.set_ 3 (.int .i64 ((z1 : Int) + s1))
      have hbx6 := HX5.out.far (p := ⟨g, 3, none⟩) (by simp; omega) (.int .i64 ((z1 : Int) + s1))
      have hmw6 := HMW5.out.keep ((Frm.refl (fun k => k = g) w5).setCell (p := ⟨g, 3, none⟩) rfl (.int .i64 ((z1 : Int) + s1))) (fun c => HT3.out.ga c.symm)
      have hmn6 := HMN5.out.keep ((Frm.refl (fun k => k = g) w5).setCell (p := ⟨g, 3, none⟩) rfl (.int .i64 ((z1 : Int) + s1))) (fun c => HT3.out.gb c.symm)
      have hF6 : Frm (fun k => k = g ∨ k = a ∨ k = b) w4 (w5.setCell ⟨g, 3, none⟩ (.int .i64 ((z1 : Int) + s1))) := HF5.out.setCell (.inl rfl) _
      clear hd3 hz3 hg5
      generalize w5.setCell ⟨g, 3, none⟩ (.int .i64 ((z1 : Int) + s1)) = w6 at *
      have hd1 := hb6.cell 1
      have hd4 := hb6.cell 4
      have hd5 := hb6.cell 5
      have hxa := hbx6.cell 0
      have hxb := hbx6.cell 1
      have hg6 : g < w6.heap.size := hb6.lt
      have hbx7 : bx < w6.heap.size := hbx6.lt
      simp only [List.getElem?_toArray, List.getElem?_cons_zero, List.getElem?_cons_succ, List.setIfInBounds_toArray, List.set_cons_zero, List.set_cons_succ] at hd1 hd4 hd5 hxa hxb
      have HB6 := Lib.hid hb6
      have HMW6 := Lib.hid (hmw6.fresh ((Frm.refl _ _).drew))
      have HMN6 := Lib.hid (hmn6.fresh ((Frm.refl _ _).drew))
      have HF6 := Lib.hid hF6
      have hga := HT3.out.ga
      have hgb := HT3.out.gb
      have hab := HT3.out.ab
      obtain ⟨v7, st7, w7, hr7, hm7, hF7, hs7⟩ := run_entry (P := Try.prog) fkey (M := 100) (E := 41) Try.underlying100 (z := .int .u64 0) (by kernel_rfl) HMW6.out (x1, x2)
      obtain ⟨w8, hr8, hm8, hF8, hs8⟩ := run_entryStore (P := Try.prog) 100 hm7 (.int .u64 n)
      obtain ⟨v9, st9, w9, hr9, hm9, hF9, hs9⟩ := run_entry (P := Try.prog) skey (M := 101) (E := 41) Try.underlying101 (z := .int .u64 0) (by kernel_rfl) ((HMN6.out.keep hF7 hab.symm).keep hF8 hab.symm) x1
      obtain ⟨w10, hr10, hm10, hF10, hs10⟩ := run_entryStore (P := Try.prog) 101 hm9 (.int .u64 n)
      simp only [fld, str, goInt] at hr7 hr8 hr9 hr10
      have hX : ∀ p : Addr, p.block ≠ a → p.block ≠ b → w7.cell? p = w6.cell? p ∧ w8.cell? p = w6.cell? p ∧ w9.cell? p = w6.cell? p ∧ w10.cell? p = w6.cell? p := fun p h1 h2 => by
        have e7 : w7.cell? p = w6.cell? p := hF7.cell h1
        have e8 : w8.cell? p = w6.cell? p := (hF8.cell h1).trans e7
        have e9 : w9.cell? p = w6.cell? p := (hF9.cell h2).trans e8
        exact ⟨e7, e8, e9, (hF10.cell h2).trans e9⟩
      have hXg := fun i : Nat => hX ⟨g, i, none⟩ hga hgb
      have hXb := fun i : Nat => hX ⟨bx, i, none⟩ (by simp; omega) (by simp; omega)
      have hS7 : w7.cell? ⟨g, 1, none⟩ = some (.int .u64 n) ∧ w7.cell? ⟨g, 4, none⟩ = some (.map (some a)) ∧ w7.cell? ⟨g, 5, none⟩ = some (.map (some b)) ∧ w7.cell? ⟨bx, 0, none⟩ = some (.string ⟨x1.toArray⟩) ∧ w7.cell? ⟨bx, 1, none⟩ = some (.string ⟨x2.toArray⟩) :=
        ⟨(hXg 1).1.trans hd1, (hXg 4).1.trans hd4, (hXg 5).1.trans hd5, (hXb 0).1.trans hxa, (hXb 1).1.trans hxb⟩
      have hS8 : w8.cell? ⟨g, 1, none⟩ = some (.int .u64 n) ∧ w8.cell? ⟨g, 4, none⟩ = some (.map (some a)) ∧ w8.cell? ⟨g, 5, none⟩ = some (.map (some b)) ∧ w8.cell? ⟨bx, 0, none⟩ = some (.string ⟨x1.toArray⟩) ∧ w8.cell? ⟨bx, 1, none⟩ = some (.string ⟨x2.toArray⟩) :=
        ⟨(hXg 1).2.1.trans hd1, (hXg 4).2.1.trans hd4, (hXg 5).2.1.trans hd5, (hXb 0).2.1.trans hxa, (hXb 1).2.1.trans hxb⟩
      have hS9 : w9.cell? ⟨g, 1, none⟩ = some (.int .u64 n) ∧ w9.cell? ⟨g, 4, none⟩ = some (.map (some a)) ∧ w9.cell? ⟨g, 5, none⟩ = some (.map (some b)) ∧ w9.cell? ⟨bx, 0, none⟩ = some (.string ⟨x1.toArray⟩) ∧ w9.cell? ⟨bx, 1, none⟩ = some (.string ⟨x2.toArray⟩) :=
        ⟨(hXg 1).2.2.1.trans hd1, (hXg 4).2.2.1.trans hd4, (hXg 5).2.2.1.trans hd5, (hXb 0).2.2.1.trans hxa, (hXb 1).2.2.1.trans hxb⟩
      have hS10 : w10.cell? ⟨g, 1, none⟩ = some (.int .u64 n) ∧ w10.cell? ⟨g, 4, none⟩ = some (.map (some a)) ∧ w10.cell? ⟨g, 5, none⟩ = some (.map (some b)) ∧ w10.cell? ⟨bx, 0, none⟩ = some (.string ⟨x1.toArray⟩) ∧ w10.cell? ⟨bx, 1, none⟩ = some (.string ⟨x2.toArray⟩) :=
        ⟨(hXg 1).2.2.2.trans hd1, (hXg 4).2.2.2.trans hd4, (hXg 5).2.2.2.trans hd5, (hXb 0).2.2.2.trans hxa, (hXb 1).2.2.2.trans hxb⟩
      have HS7 := Lib.hid hS7
      have HS8 := Lib.hid hS8
      have HS9 := Lib.hid hS9
      have HS10 := Lib.hid hS10
      have hm8 := Lib.hid hm8
      have hm10 := Lib.hid hm10
      have hF7 := Lib.hid hF7
      have hF8 := Lib.hid hF8
      have hF9 := Lib.hid hF9
      have hF10 := Lib.hid hF10
      clear hm7 hm9 hs7 hs8 hs9 hs10 hX hXg hXb hS7 hS8 hS9 hS10
      go_region_held3 (fun w' => w'.cell? ⟨g, 1, none⟩ = some (.int .u64 n) ∧ w'.cell? ⟨g, 4, none⟩ = some (.map (some a)) ∧ w'.cell? ⟨g, 5, none⟩ = some (.map (some b)) ∧ w'.cell? ⟨bx, 0, none⟩ = some (.string ⟨x1.toArray⟩) ∧ w'.cell? ⟨bx, 1, none⟩ = some (.string ⟨x2.toArray⟩))
        (first | exact HS7.out | exact HS8.out | exact HS9.out | exact HS10.out | exact ⟨hd1, hd4, hd5, hxa, hxb⟩) (fail)
      go_upto_region 11 with (fail)
      replace hF7 := hF7.out
      replace hF8 := hF8.out
      replace hF9 := hF9.out
      replace hF10 := hF10.out
      replace hm8 := hm8.out
      replace hm10 := hm10.out
      clear hr7 hr8 hr9 hr10
      replace hm8 : MapIs w8 a fld (putE (x1, x2) (.int .u64 n) ew1) := hm8
      replace hm10 : MapIs w10 b str (putE x1 (.int .u64 n) en1) := hm10
      have hb10 := (((HB6.out.drew.keep hF7 hga).keep hF8 hga).keep hF9 hgb).keep hF10 hgb
      have hmw10 := Lib.hid ((hm8.keep hF9 hab).keep hF10 hab)
      have hmn10 := Lib.hid hm10
      have hF10' : Hid (Frm (fun k => k = g ∨ k = a ∨ k = b) w4 w10) := (((HF6.out.drew.trans (hF7.mono (fun k hk => .inr (.inl hk)))).trans (hF8.mono (fun k hk => .inr (.inl hk)))).trans (hF9.mono (fun k hk => .inr (.inr hk)))).trans (hF10.mono (fun k hk => .inr (.inr hk)))
      have hd1 := hb10.cell 1
      have hz1 := hb10.frozen 1
      have hg10 : g < w10.heap.size := hb10.lt
      simp only [List.getElem?_toArray, List.getElem?_cons_zero, List.getElem?_cons_succ, List.setIfInBounds_toArray, List.set_cons_zero, List.set_cons_succ] at hd1
      have HB10 := Lib.hid hb10
      have hnn : (n : Int) ≤ 1152921504606846976 := by omega
      clear hb10 hm8 hm10 hF7 hF8 hF9 hF10 hg6 hbx7 hd4 hd5 hxa hxb HMW6 HMN6 hga hgb hab
      go_wp2
      rw [rounds_succ]
      go_wp2
      go_ret
      have hb11 := HB10.out.set_ 1 (.int .u64 ((n : Int) + 1))
      have hF11 : Frm (fun k => k = g ∨ k = a ∨ k = b) w4 (w10.setCell ⟨g, 1, none⟩ (.int .u64 ((n : Int) + 1))) := hF10'.out.setCell (.inl rfl) _
      have hmw11 := hmw10.out.keep ((Frm.refl (fun k => k = g) w10).setCell (p := ⟨g, 1, none⟩) rfl (.int .u64 ((n : Int) + 1))) (fun c => HT3.out.ga c.symm)
      have hmn11 := hmn10.out.keep ((Frm.refl (fun k => k = g) w10).setCell (p := ⟨g, 1, none⟩) rfl (.int .u64 ((n : Int) + 1))) (fun c => HT3.out.gb c.symm)
      generalize w10.setCell ⟨g, 1, none⟩ (.int .u64 ((n : Int) + 1)) = w11 at *
      have s01 := H0.out.size
      have s12 := hT2.out.size
      have s23 := HF3.out.size
      have s34 : w3.heap.size ≤ w4.heap.size := HF4.out.size
      have s411 := hF11.size
      have hS := HBS.out
      have hwx := HBX.out
      have hall : Frm (Own S w) w w11 := by
        refine ((((H0.out.mono (fun k hk => .inr hk)).trans (hT2.out.mono (fun k hk => .inr (Nat.le_trans s01 hk)))).trans (HF3.out.mono (fun k hk => ?_))).trans (HF4.out.mono (fun k hk => ?_))).trans (hF11.mono (fun k hk => ?_))
        · rcases hk with hk | hk
          · exact .inl hk
          · exact .inr (by omega)
        · rcases hk with hk | hk
          · exact .inl hk
          · exact .inr (by omega)
        · rcases hk with rfl | rfl | rfl
          · exact .inl HT3.out.sg
          · exact .inl HT3.out.sa
          · exact .inl HT3.out.sb
      refine ⟨⟨_, rfl⟩, fun k => Own S w k ∧ k < w11.heap.size, A4, c4, putE (x1, x2) (.int .u64 n) ew1, putE x1 (.int .u64 n) en1, ?_, hall, fun k hk => hk.1⟩
      rw [HA.out, if_pos hq]
      have hle : l1.length ≤ n := HT3.out.le
      have hfs : fsizes (l1 ++ [(x1, x2)]) = z1 + s1 := by rw [fsizes_snoc, HZ1.out, HSX.out]
      have hns : (l1 ++ [(x1, x2)]).length = l1.length + 1 := by simp
      have hfi : n + 1 - (l1.length + 1) = n - l1.length := by omega
      have hsn : n - l1.length + l1.length = n := by omega
      refine ⟨?_, hmw11, hmn11, ?_, ?_, ?_, ?_, fun k hk => hk.2, HT3.out.ab, HT3.out.ga, HT3.out.gb, HGA.out, ?_, ?_, ?_, ?_, HT3.out.cb, ?_⟩
      · simp only [hfs, hns]
        simpa using hb11
      · have h1 := HAPP.out
        have h2 := App.here h1 (by simp)
        have h3 := h2.keep hF11 (fun k hk c => by
          have := HGA.out k hk
          omega)
        simp only [hns]
        rw [fvs_append]
        refine App.mono h3 ?_
        rintro k ⟨hk1, hk2⟩
        refine ⟨?_, Nat.lt_of_lt_of_le hk2 s411⟩
        rcases hk1 with c | c
        · exact .inl c
        · exact .inr (Nat.le_trans (Nat.le_trans s01 (Nat.le_trans s12 s23)) c)
      · exact ⟨.inl HT3.out.sg, by omega⟩
      · exact ⟨.inl HT3.out.sa, by omega⟩
      · exact ⟨.inl HT3.out.sb, by omega⟩
      · rw [hns, hfi]
        have := HT3.out.iw.snoc (x1, x2)
        rw [hsn] at this
        exact this
      · rw [hns, hfi]
        have := HT3.out.im.snoc (x1, x2)
        rw [hsn] at this
        exact this
      · show (l1 ++ [(x1, x2)]).length ≤ n + 1
        rw [hns]; omega
      · show n + 1 ≤ _
        omega
      · show fsizes (l1 ++ [(x1, x2)]) ≤ _
        rw [hfs]; omega
  · go_wp2_with (first
      | (go_at_call 78
         refine (size_any [(x1, x2)] _ 1 _ (by exact Rd.new _ #[.string ⟨x1.toArray⟩, .string ⟨x2.toArray⟩] _) (by rw [hs1.out]; omega) (by simp)).mono ?_
         rintro e w2 ⟨rfl, hFs⟩
         have hT2 : Frm (New w1) w1 w2 := Frm.then_new ((Frm.refl _ _).alloc Up.new _) Up.new hFs
         have H2 := Lib.hid (H1.out.fresh hT2)
         have hT2 := Lib.hid hT2
         clear hFs
         rw [hs1.out])
      | (go_at_call 83
         refine (fit_any s1 _ H2.out (by omega)).mono ?_
         rintro e w3 ⟨rfl, A1, c1, ew1, en1, hT3, hF3⟩
         have hd2 := hT3.blk.cell 2
         have hg3 : g < w3.heap.size := hT3.blk.lt
         simp only [List.getElem?_toArray, List.getElem?_cons_zero, List.getElem?_cons_succ] at hd2
         have HT3 := Lib.hid hT3
         have HF3 := Lib.hid hF3
         clear hT3 hF3
         have hev := Lib.hid (evict_all s1 cap (by omega) l)
         generalize evict s1 cap l = l1 at *
         generalize hgm : l.length - l1.length = m at *
         have hm2 : m ≤ 1152921504606846976 := by omega
         clear hgm hm))
    rw [rounds_succ]
    go_wp2
    go_ret
    have s01 := H0.out.size
    have s12 := hT2.out.size
    refine ⟨⟨_, rfl⟩, S, A1, c1, ew1, en1, ?_, ?_, fun k hk => .inl hk⟩
    · rw [HA.out, if_neg hq]
      have := HT3.out
      rw [hev.out] at this
      exact this
    · refine ((H0.out.mono (fun k hk => .inr hk)).trans (hT2.out.mono (fun k hk => .inr (Nat.le_trans s01 hk)))).trans (HF3.out.mono (fun k hk => ?_))
      rcases hk with hk | hk
      · exact .inl hk
      · exact .inr (by omega)
end Go.Proofs.Ytcebckkpablagaa.M
