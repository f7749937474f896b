/- The reference's Table.Add. No condition but sizes. -/
import Derived.Test.YtcebckkpablagaaRtab
import Derived.Test.YtcebckkpablagaaTadd
import Derived.Test.YtcebckkpablagaaReg
namespace Go.Proofs.Ytcebckkpablagaa.M
open Go.ChangeShapes Go.WideShapes Go.ChangeAt Go.RowKit

theorem radd_step {R : Nat → Prop} {w4 W w6 : World} {g n1 c4 : Nat} {A1 A4 : Option Addr} {t e : TypeId} {cs : Array Value} {size : Nat} {xs : List Value} (hb : Blk w4 g t cs) (hA : App R w6 e size A4 (n1 + 1) c4 xs)
    (hblk : (blk A4 = blk A1 ∧ c4 = n1) ∨ (blk A4 = some W.heap.size ∧ 0 < 1)) (hWr : Frm (Wr A1 n1 n1 W) W w6) (hF : Frm (New w4) w4 W) :
    Hid (Blk w6 g t cs) ∧ Hid (Frm (New w4) w4 w6) ∧ Hid (∀ k, M.blk A4 = some k → w4.heap.size ≤ k) := by
  have hs := hF.size
  have hF46 : Frm (New w4) w4 w6 := hF.trans (hWr.mono (fun k hk => by
    rcases hk with hk | hk
    · exact Nat.le_trans hs hk
    · omega))
  refine ⟨hb.fresh hF46, hF46, fun k hk => ?_⟩
  rcases hblk with ⟨_, e2⟩ | ⟨e2, _⟩
  · have := hA.cap; omega
  · rw [hk] at e2; injection e2 with e2; omega

set_option maxRecDepth 100000 in
set_option maxHeartbeats 2000000 in
theorem radd_any {S : Nat → Prop} {g : Nat} {T : Tb} (x : Fld) (w : World) (h : RTabS S w g T) (hn : T.n < 1152921504606846976) (hx : fsize x ≤ 70368744177664) (hc46 : T.cap ≤ 70368744177664) :
    Calls Try.prog 59 #[.pointer (some ⟨g, 0, none⟩), fld x] w fun e w' => (∃ m : Int, e = .returned (.int .i64 m)) ∧
      ∃ S', RTabS S' w' g (T.add x) ∧ Frm (fun k => k = g ∨ New w k) w w' ∧ ∀ k, S' k → Own S w k := by
  obtain ⟨x1, x2⟩ := x
  have HA : Hid (T.add (x1, x2) = if fsize (x1, x2) ≤ T.cap then ⟨evict (fsize (x1, x2)) T.cap T.l ++ [(x1, x2)], T.n + 1, T.cap⟩ else ⟨[], T.n, T.cap⟩) := rfl
  have hsz := fun w' => rsize1_any (x1, x2) w' (by omega)
  have hfits := fun h => evict_fits (fsize (x1, x2)) T.cap h T.l
  have hall := fun h => evict_all (fsize (x1, x2)) T.cap h T.l
  generalize hsx : fsize (x1, x2) = s1 at *
  have HSX := Lib.hid hsx
  clear hsx
  have hlow := h.low
  have hlx := len_fsizes (evict s1 T.cap T.l)
  simp only [fld, str] at hsz ⊢
  generalize hl1 : evict s1 T.cap T.l = l1 at *
  have HSZ := Lib.hid hsz
  have HLOW := Lib.hid hlow
  have HL1 := Lib.hid hl1
  have HFITS := Lib.hid hfits
  have HALL := Lib.hid hall
  clear hsz hlow hl1 hfits hall
  go_enter Try.func59, Try.ntmps59
  go_upto_region 1 with (fail)
  have hB := Blk.new w 30 #[Value.string { data := List.toArray x1 }, Value.string { data := List.toArray x2 }]
  have h0 : Frm (New w) w (w.alloc (Obj.cells #[Value.string { data := List.toArray x1 }, Value.string { data := List.toArray x2 }] 30)) := (Frm.refl _ _).alloc Up.new _
  have h1 := h.fresh h0
  clear h
  generalize w.alloc (Obj.cells #[Value.string { data := List.toArray x1 }, Value.string { data := List.toArray x2 }] 30) = w1 at *
  generalize hbe : w.heap.size = b at *
  have hbg : g < b := HLOW.out g h1.sg
  obtain ⟨A, c, hT⟩ := h1
  obtain ⟨l, n, cap⟩ := T
  simp only at hT hn hc46 HL1 HFITS HALL HA
  have hb := hT.blk
  have hK : ∀ w', Frm (New w1) w1 w' → (w'.cell? ⟨g, 1, none⟩ = some (.int .i64 cap) ∧ w'.cell? ⟨b, 0, none⟩ = some (.string ⟨x1.toArray⟩) ∧ w'.cell? ⟨b, 1, none⟩ = some (.string ⟨x2.toArray⟩)) := fun w' hw' => by
    have hb' := hb.fresh hw'
    have hB' := hB.fresh hw'
    have h1 := hb'.cell 1
    simp only [List.getElem?_toArray, List.getElem?_cons_zero, List.getElem?_cons_succ] at h1
    have h2 := hB'.cell 0
    have h3 := hB'.cell 1
    simp only [List.getElem?_toArray, List.getElem?_cons_zero, List.getElem?_cons_succ] at h2 h3
    exact ⟨h1, h2, h3⟩
  have hd1 := hb.cell 1
  simp only [List.getElem?_toArray, List.getElem?_cons_zero, List.getElem?_cons_succ] at hd1
  have hx1 := hB.cell 0
  have hx2 := hB.cell 1
  simp only [List.getElem?_toArray, List.getElem?_cons_zero, List.getElem?_cons_succ] at hx1 hx2
  have hg : g < w1.heap.size := hb.lt
  have hb1 : b < w1.heap.size := hB.lt
  obtain ⟨rr, hrr⟩ : ∃ rr : Int, rr = (cap : Int) - (s1 : Int) := ⟨_, rfl⟩
  have hwr : IntKind.i64.wrap ((cap : Int) - (s1 : Int)) = rr := by rw [hrr]; exact IntWalk.i64_in _ (by omega)
  have hfit := fun w' (hw : RTabAt S w' g l n cap A c) => rfit_any s1 cap w' hw
  rw [← hrr] at hfit
  have HT := Lib.hid hT
  have HBX := Lib.hid hB
  have HB := Lib.hid hb
  have HK := Lib.hid hK
  have HFIT := Lib.hid hfit
  have HBE := Lib.hid hbe
  have HRR := Lib.hid hrr
  clear hT hB hb hK hfit hbe hrr
  go_region_held3 (fun w' => w'.cell? ⟨g, 1, none⟩ = some (.int .i64 cap) ∧ w'.cell? ⟨b, 0, none⟩ = some (.string ⟨x1.toArray⟩) ∧ w'.cell? ⟨b, 1, none⟩ = some (.string ⟨x2.toArray⟩))
    (first
      | exact HS3.out
      | exact HK.out _ hT2
      | exact HK.out _ ((Frm.refl _ _).drew)
      | exact HK.out _ (Frm.refl _ _))
    (first
      | (go_at_call 82
         refine (HSZ.out _).mono ?_
         rintro e w2 ⟨rfl, hF2⟩
         have hT2 : Frm (New w1) w1 w2 := Frm.then_new (by first | exact (Frm.refl _ _).drew | exact Frm.refl _ _) Up.new hF2)
      | (go_at_call 81
         refine (HFIT.out _ (HT.out.fresh hT2)).mono ?_
         rintro e w3 ⟨⟨m, rfl⟩, A1, c1, hT3, hF3⟩
         have HS3 : Hid (w3.cell? ⟨g, 1, none⟩ = some (.int .i64 cap) ∧ w3.cell? ⟨b, 0, none⟩ = some (.string ⟨x1.toArray⟩) ∧ w3.cell? ⟨b, 1, none⟩ = some (.string ⟨x2.toArray⟩)) := by
           have hb' := hT3.blk
           have hB' := (HBX.out.fresh hT2).keep hF3 (by omega)
           have h1 := hb'.cell 1
           have h2 := hB'.cell 0
           have h3 := hB'.cell 1
           exact ⟨h1, h2, h3⟩
         have HT3 := Lib.hid hT3
         have HF3 := Lib.hid hF3
         have HT2 := Lib.hid hT2
         clear hT3 hF3 hT2)
      | fail)
  have hK3 : ∀ w', Frm (New w3) w3 w' → (w'.cell? ⟨g, 1, none⟩ = some (.int .i64 cap) ∧ w'.cell? ⟨b, 0, none⟩ = some (.string ⟨x1.toArray⟩) ∧ w'.cell? ⟨b, 1, none⟩ = some (.string ⟨x2.toArray⟩)) := fun w' hw' => by
    have hb' := HT3.out.blk.fresh hw'
    have hB' := ((HBX.out.fresh HT2.out).keep HF3.out (show ¬ b = g by omega)).fresh hw'
    have h1 := hb'.cell 1
    simp only [List.getElem?_toArray, List.getElem?_cons_zero, List.getElem?_cons_succ] at h1
    have h2 := hB'.cell 0
    have h3 := hB'.cell 1
    simp only [List.getElem?_toArray, List.getElem?_cons_zero, List.getElem?_cons_succ] at h2 h3
    exact ⟨h1, h2, h3⟩
  have hB3 : Blk w3 b 30 #[Value.string { data := List.toArray x1 }, Value.string { data := List.toArray x2 }] := (HBX.out.fresh HT2.out).keep HF3.out (show ¬ b = g by omega)
  rw [HL1.out] at HT3
  have H0 := Lib.hid h0
  obtain ⟨hd1, hx1, hx2⟩ := HS3.out
  have hg : g < w3.heap.size := HT3.out.blk.lt
  have hb1 : b < w3.heap.size := hB3.lt
  have hF13 : Hid (Frm (fun k => k = g ∨ New w k) w w3) := ((h0.mono (fun k hk => .inr hk)).trans (HT2.out.mono (fun k hk => .inr (Nat.le_trans h0.size hk)))).trans (HF3.out.mono (fun k hk => .inl hk))
  have HK3 := Lib.hid hK3
  have HB3 := Lib.hid hB3
  clear hK3 hB3
  clear HK HFIT hwr HB HBX HS3 h0
  go_wp2_with (fail)
  by_cases hq : s1 ≤ cap
  · have hq' : (s1 : Int) ≤ (cap : Int) := by omega
    go_region_held3 (fun w' => w'.cell? ⟨g, 1, none⟩ = some (.int .i64 cap) ∧ w'.cell? ⟨b, 0, none⟩ = some (.string ⟨x1.toArray⟩) ∧ w'.cell? ⟨b, 1, none⟩ = some (.string ⟨x2.toArray⟩))
      (first
        | exact HK3.out _ hT4
        | exact HK3.out _ ((Frm.refl _ _).drew)
        | exact HK3.out _ (Frm.refl _ _))
      (first
        | (go_at_call 82
           refine (HSZ.out _).mono ?_
           rintro e w4 ⟨rfl, hF4⟩
           have hT4 : Frm (New w3) w3 w4 := Frm.then_new (by first | exact (Frm.refl _ _).drew | exact Frm.refl _ _) Up.new hF4)
        | fail)
    go_wp2_with (fail)
    have hT5 := HT3.out.fresh hT4
    have hB5 := HB3.out.fresh hT4
    have hs4 := hT4.size
    clear hd1 hx1 hx2 hg hb1
    have hF14 : Hid (Frm (fun k => k = g ∨ New w k) w w4) := hF13.out.trans (hT4.mono (fun k hk => .inr (Nat.le_trans hF13.out.size hk)))
    have hbk := hT5.blk
    have hd0 := hbk.cell 0
    simp only [List.getElem?_toArray, List.getElem?_cons_zero] at hd0
    have hx1 := hB5.cell 0
    have hx2 := hB5.cell 1
    simp only [List.getElem?_toArray, List.getElem?_cons_zero, List.getElem?_cons_succ] at hx1 hx2
    have hz0 := hbk.frozen 0
    have hg : g < w4.heap.size := hbk.lt
    have hb1 : b < w4.heap.size := hB5.lt
    have hcap : l1.length ≤ c1 := hT5.app.cap
    have hA5 : App (fun k => S k ∨ New w4 k) w4 30 2 A1 l1.length l1.length (fvs l1) :=
      App.full hT5.app.rd hT5.app.len (Nat.le_trans hT5.app.cap hT5.app.max) (fun e => by have := hT5.app.nil_ e; omega) (fun k hk => .inl (hT5.app.inM k hk)) (fun hn => by
        obtain ⟨g', off, cur, e1, e2, e3, e4⟩ := hT5.app.own (by have := hT5.app.cap; omega)
        exact ⟨g', off, cur, e1, e2, Nat.le_trans (by have := Nat.mul_le_mul_right 2 hT5.app.cap; omega) e3, .inl e4⟩)
    have hfs := HFITS.out hq
    have hg0 : (0 : Int) ≤ (l1.length : Int) := by omega
    have hg1 : (l1.length : Int) ≤ (c1 : Int) := by omega
    have HT5 := Lib.hid hT5
    have HB5 := Lib.hid hB5
    have HBK := Lib.hid hbk
    have HA5 := Lib.hid hA5
    have HT4 := Lib.hid hT4
    clear hT5 hB5 hbk hA5 hT4
    clear HK3 HF3 HT2 HT3 HB3
    generalize hln : l1.length = n1 at *
    have HLN := Lib.hid hln
    clear hln
    have hS0 : w4.drew.cell? ⟨g, 0, none⟩ = some (.slice A1 n1 c1) ∧ w4.drew.cell? ⟨b, 0, none⟩ = some (.string ⟨x1.toArray⟩) ∧ w4.drew.cell? ⟨b, 1, none⟩ = some (.string ⟨x2.toArray⟩) := ⟨hd0, hx1, hx2⟩
    refine wp_region_til (by kernel_rfl) (fun w' => w'.cell? ⟨g, 0, none⟩ = some (.slice A1 n1 c1) ∧ w'.cell? ⟨b, 0, none⟩ = some (.string ⟨x1.toArray⟩) ∧ w'.cell? ⟨b, 1, none⟩ = some (.string ⟨x2.toArray⟩)) 21 ?_
    refine wpAnyT_take (i := 0) (v := ?_) (d := some 22) rfl (by rfl) (by kernel_rfl) (fun _ _ _ h => h) (by rfl) hS0 (fun w hSw => ?_) ?_
    rotate_left
    · (try dsimp only at hSw); go_simp; first | done | (with_reducible rfl)
    simp only [Act.put, List.setIfInBounds_toArray, List.set_cons_zero, List.set_cons_succ]
    refine wpAnyT_take (i := 1) (v := ?_) (d := some 23) rfl (by rfl) (by kernel_rfl) (fun _ _ _ h => h) (by rfl) hS0 (fun w hSw => ?_) ?_
    rotate_left
    · (try dsimp only at hSw); go_simp; first | done | (with_reducible rfl)
    simp only [Act.put, List.setIfInBounds_toArray, List.set_cons_zero, List.set_cons_succ]
    refine wpAnyT_take (i := 2) (v := ?_) (d := some 24) rfl (by rfl) (by kernel_rfl) (fun _ _ _ h => h) (by rfl) hS0 (fun w hSw => ?_) ?_
    rotate_left
    · (try dsimp only at hSw); go_simp; first | done | (with_reducible rfl)
    simp only [Act.put, List.setIfInBounds_toArray, List.set_cons_zero, List.set_cons_succ]
    refine wpAnyT_take (i := 3) (v := ?_) (d := some 25) rfl (by rfl) (by kernel_rfl) (fun _ _ _ h => h) (by rfl) hS0 (fun w hSw => ?_) ?_
    rotate_left
    · (try dsimp only at hSw); go_simp; first | done | (with_reducible rfl)
    simp only [Act.put, List.setIfInBounds_toArray, List.set_cons_zero, List.set_cons_succ]
    refine wpAnyT_take (i := 4) (v := ?_) (d := some 26) rfl (by rfl) (by kernel_rfl) (fun _ _ _ h => h) (by rfl) hS0 (fun w hSw => ?_) ?_
    rotate_left
    · (try dsimp only at hSw); go_simp; first | done | (with_reducible rfl)
    simp only [Act.put, List.setIfInBounds_toArray, List.set_cons_zero, List.set_cons_succ]
    refine wpAnyT_take (i := 5) (v := ?_) (d := some 27) rfl (by rfl) (by kernel_rfl) (fun _ _ _ h => h) (by rfl) hS0 (fun w hSw => ?_) ?_
    rotate_left
    · (try dsimp only at hSw); go_simp; first | done | (with_reducible rfl)
    simp only [Act.put, List.setIfInBounds_toArray, List.set_cons_zero, List.set_cons_succ]
    refine wpAnyT_take (i := 6) (v := ?_) (d := some 28) rfl (by rfl) (by kernel_rfl) (fun _ _ _ h => h) (by rfl) hS0 (fun w hSw => ?_) ?_
    rotate_left
    · (try dsimp only at hSw); go_simp; first | done | (with_reducible rfl)
    simp only [Act.put, List.setIfInBounds_toArray, List.set_cons_zero, List.set_cons_succ]
    refine wpAnyT_take (i := 7) (v := ?_) (d := some 29) rfl (by rfl) (by kernel_rfl) (fun _ _ _ h => h) (by rfl) hS0 (fun w hSw => ?_) ?_
    rotate_left
    · (try dsimp only at hSw); go_simp; first | done | (with_reducible rfl)
    simp only [Act.put, List.setIfInBounds_toArray, List.set_cons_zero, List.set_cons_succ]
    refine wpAnyT_take (i := 8) (v := ?_) (d := some 30) rfl (by rfl) (by kernel_rfl) (fun _ _ _ h => h) (by rfl) hS0 (fun w hSw => ?_) ?_
    rotate_left
    · (try dsimp only at hSw); go_simp; first | done | (with_reducible rfl)
    simp only [Act.put, List.setIfInBounds_toArray, List.set_cons_zero, List.set_cons_succ]
    refine wpAnyT_take (i := 9) (v := ?_) (d := some 31) rfl (by rfl) (by kernel_rfl) (fun _ _ _ h => h) (by rfl) hS0 (fun w hSw => ?_) ?_
    rotate_left
    · (try dsimp only at hSw); go_simp; first | done | (with_reducible rfl)
    simp only [Act.put, List.setIfInBounds_toArray, List.set_cons_zero, List.set_cons_succ]
    refine wpAnyT_take (i := 10) (v := ?_) (d := some 32) rfl (by rfl) (by kernel_rfl) (fun _ _ _ h => h) (by rfl) hS0 (fun w hSw => ?_) ?_
    rotate_left
    · (try dsimp only at hSw); go_simp; first | done | (with_reducible rfl)
    simp only [Act.put, List.setIfInBounds_toArray, List.set_cons_zero, List.set_cons_succ]
    refine wpAnyT_take (i := 11) (v := ?_) (d := some 33) rfl (by rfl) (by kernel_rfl) (fun _ _ _ h => h) (by rfl) hS0 (fun w hSw => ?_) ?_
    rotate_left
    · (try dsimp only at hSw); go_simp; first | done | (with_reducible rfl)
    simp only [Act.put, List.setIfInBounds_toArray, List.set_cons_zero, List.set_cons_succ]
    refine wpAnyT_take (i := 12) (v := ?_) (d := some 34) rfl (by rfl) (by kernel_rfl) (fun _ _ _ h => h) (by rfl) hS0 (fun w hSw => ?_) ?_
    rotate_left
    · (try dsimp only at hSw); go_simp; first | done | (with_reducible rfl)
    simp only [Act.put, List.setIfInBounds_toArray, List.set_cons_zero, List.set_cons_succ]
    refine wpAnyT_take (i := 13) (v := ?_) (d := some 35) rfl (by rfl) (by kernel_rfl) (fun _ _ _ h => h) (by rfl) hS0 (fun w hSw => ?_) ?_
    rotate_left
    · (try dsimp only at hSw); go_simp; first | done | (with_reducible rfl)
    simp only [Act.put, List.setIfInBounds_toArray, List.set_cons_zero, List.set_cons_succ]
    refine wpAnyT_take (i := 14) (v := ?_) (d := some 36) rfl (by rfl) (by kernel_rfl) (fun _ _ _ h => h) (by rfl) hS0 (fun w hSw => ?_) ?_
    rotate_left
    · (try dsimp only at hSw); go_simp; first | done | (with_reducible rfl)
    simp only [Act.put, List.setIfInBounds_toArray, List.set_cons_zero, List.set_cons_succ]
    refine wpAnyT_take (i := 15) (v := ?_) (d := some 37) rfl (by rfl) (by kernel_rfl) (fun _ _ _ h => h) (by rfl) hS0 (fun w hSw => ?_) ?_
    rotate_left
    · (try dsimp only at hSw); go_simp; first | done | (with_reducible rfl)
    simp only [Act.put, List.setIfInBounds_toArray, List.set_cons_zero, List.set_cons_succ]
    refine wpAnyT_take (i := 16) (v := ?_) (d := some 38) rfl (by rfl) (by kernel_rfl) (fun _ _ _ h => h) (by rfl) hS0 (fun w hSw => ?_) ?_
    rotate_left
    · (try dsimp only at hSw); go_simp; first | done | (with_reducible rfl)
    simp only [Act.put, List.setIfInBounds_toArray, List.set_cons_zero, List.set_cons_succ]
    have hn0 := World.new_ne w4.drew _ hd0
    have hn1 := World.new_ne w4.drew _ hx1
    refine wpAnyT_one (i := 17) rfl (by kernel_rfl) (fun K hK => ?_)
    go_simp
    refine hK.out _ _ (.inr ((by go_keep))) ?_
    clear hK K
    refine wpAnyT_one (i := 18) rfl (by kernel_rfl) (fun K hK => ?_)
    (refine step_append2 (M := fun k => S k ∨ New w4 k) (A := A1) (n := n1) (c := n1) (xs := fvs l1) (news := [.string ⟨x1.toArray⟩, .string ⟨x2.toArray⟩]) flds rfl rfl rfl ((HA5.out.drew).alloc _) (fun k hk => .inr (by simp at hk; unfold New; omega)) rfl (Rd.new _ #[.string ⟨x1.toArray⟩, .string ⟨x2.toArray⟩] _) rfl (fun u hu => by simp at hu; rcases hu with rfl | rfl <;> rfl) (by omega) ?_; intro A4 c4 w6 hApp4 hF4 hblk4 hWr4; have hX := radd_step HBK.out hApp4 hblk4 hWr4 ((Frm.refl _ _).drew.alloc Up.new _); have hY := (HB5.out.fresh hX.2.1.out))
    refine hK.out _ _ (.inr (⟨hX.1.out.cell 0, hY.cell 0, hY.cell 1⟩)) ?_
    clear hK K
    have hS6 : w6.cell? ⟨g, 0, none⟩ = some (.slice A1 n1 c1) ∧ w6.cell? ⟨b, 0, none⟩ = some (.string ⟨x1.toArray⟩) ∧ w6.cell? ⟨b, 1, none⟩ = some (.string ⟨x2.toArray⟩) := ⟨hX.1.out.cell 0, hY.cell 0, hY.cell 1⟩
    have hz6 := hX.1.out.frozen 0
    have hg6 : g < w6.heap.size := hX.1.out.lt
    have hd6 := hS6.1
    have HAPP := Lib.hid hApp4
    have HX := Lib.hid hX
    clear hApp4 hF4 hblk4 hWr4 hX hY hd0 hx1 hx2 hz0 hg hb1 hS0 hn0 hn1
    refine wpAnyT_one (i := 19) rfl (by kernel_rfl) (fun K hK => ?_)
    go_simp
    refine hK.out _ _ (.inr (hS6)) ?_
    clear hK K
    refine wpAnyT_one (i := 20) rfl (by kernel_rfl) (fun K hK => ?_)
    go_simp
    refine hK.out _ _ (.inr (hS6)) ?_
    clear hK K
    refine wpAnyT_one (i := 21) rfl (by kernel_rfl) (fun K hK => ?_)
    go_simp
    refine hK.out _ _ (.inl (by kernel_rfl)) ?_
    clear hK K
    refine wpAnyT_done (by kernel_rfl) ?_ _
    have HF46 := HX.out.2.1
    have hA4n := HX.out.2.2
    clear hd6 hz6 hg6 hS6
    have hbx := HBK.out.fresh HF46.out
    have hb7 := hbx.set_ 0 (.slice A4 (n1 + 1) c4)
    have hF67 : Frm (fun k => k = g) w6 (w6.setCell ⟨g, 0, none⟩ (.slice A4 (n1 + 1) c4)) := (Frm.refl (fun k => k = g) w6).setCell (p := ⟨g, 0, none⟩) rfl _
    have hA7 := HAPP.out.keep hF67 (fun k hk e => by
      have h1 := hA4n.out k hk
      have h2 := HBK.out.lt
      omega)
    clear hbx
    generalize w6.setCell ⟨g, 0, none⟩ (.slice A4 (n1 + 1) c4) = w7 at *
    have hd2 := hb7.cell 2
    simp only [List.getElem?_toArray, List.getElem?_cons_zero, List.getElem?_cons_succ, List.setIfInBounds_toArray, List.set_cons_zero] at hd2
    have hz2 := hb7.frozen 2
    have hg : g < w7.heap.size := hb7.lt
    have HB7 := Lib.hid hb7
    have HF67 := Lib.hid hF67
    have HA7 := Lib.hid hA7
    clear hb7 hF67 hA7
    have hsw : IntKind.u64.wrap ((n : Int) + 1) = (n : Int) + 1 := IntWalk.u64_in _ (by omega)
    go_wp2
    go_ret
    have hb8 := HB7.out.set_ 2 (.int .u64 ((n : Int) + 1))
    have hF78 : Frm (fun k => k = g) w7 (w7.setCell ⟨g, 2, none⟩ (.int .u64 ((n : Int) + 1))) := (Frm.refl (fun k => k = g) w7).setCell (p := ⟨g, 2, none⟩) rfl _
    have hA8 := HA7.out.keep hF78 (fun k hk e => by
      have h1 := hA4n.out k hk
      have h2 := HBK.out.lt
      omega)
    have hs := H0.out.size
    have hF48 : Frm (fun k => k = g ∨ New w4 k) w4 (w7.setCell ⟨g, 2, none⟩ (.int .u64 ((n : Int) + 1))) := ((HF46.out.mono (fun k hk => .inr hk)).trans (HF67.out.mono (fun k hk => .inl hk))).trans (hF78.mono (fun k hk => .inl hk))
    generalize w7.setCell ⟨g, 2, none⟩ (.int .u64 ((n : Int) + 1)) = w8 at *
    have hw4 : w.heap.size ≤ w4.heap.size := hF14.out.size
    refine ⟨⟨_, rfl⟩, fun k => Own S w k ∧ k < w8.heap.size, ⟨A4, c4, ?_⟩, hF14.out.trans (hF48.mono (fun k hk => ?_)), fun k hk => hk.1⟩
    · rw [HA.out, if_pos hq]
      have hlen : (l1 ++ [(x1, x2)]).length = n1 + 1 := by rw [← HLN.out]; simp
      refine ⟨?_, ?_, ⟨.inl HT5.out.sg, hb8.lt⟩, fun k hk => hk.2, fun k hk e => ?_, ?_, by simp only; omega, HT5.out.cb, ?_⟩
      · simp only [hlen]
        simpa using hb8
      · simp only [hlen, fvs_append]
        have h9 : App (fun k => (S k ∨ New w4 k) ∧ k < w8.heap.size) w8 30 2 A4 (n1 + 1) c4 (fvs l1 ++ [str x1, str x2]) := hA8.here (by simp)
        refine h9.mono (fun k hk => ⟨?_, hk.2⟩)
        rcases hk.1 with c | c
        · exact .inl c
        · exact .inr (Nat.le_trans hw4 c)
      · have h1 := hA4n.out k hk
        have h2 := HBK.out.lt
        omega
      · have := HT5.out.le
        have := HLN.out
        simp only [hlen]
        omega
      · simp only [fsizes_snoc]
        have := HSX.out
        omega
    · rcases hk with hk | hk
      · exact .inl hk
      · exact .inr (Nat.le_trans hw4 hk)
  · have hq' : ¬ ((s1 : Int) ≤ (cap : Int)) := by omega
    go_region_held3 (fun w' => w'.cell? ⟨g, 1, none⟩ = some (.int .i64 cap) ∧ w'.cell? ⟨b, 0, none⟩ = some (.string ⟨x1.toArray⟩) ∧ w'.cell? ⟨b, 1, none⟩ = some (.string ⟨x2.toArray⟩))
      (first
        | exact HK3.out _ hT4
        | exact HK3.out _ ((Frm.refl _ _).drew)
        | exact HK3.out _ (Frm.refl _ _))
      (first
        | (go_at_call 82
           refine (HSZ.out _).mono ?_
           rintro e w4 ⟨rfl, hF4⟩
           have hT4 : Frm (New w3) w3 w4 := Frm.then_new (by first | exact (Frm.refl _ _).drew | exact Frm.refl _ _) Up.new hF4)
        | fail)
    have hF14 : Hid (Frm (fun k => k = g ∨ New w k) w w4) := hF13.out.trans (hT4.mono (fun k hk => .inr (Nat.le_trans hF13.out.size hk)))
    have hT5 := HT3.out.fresh hT4
    have hl0 := HALL.out (by omega)
    subst hl0
    have HT5 := Lib.hid hT5
    have HT4 := Lib.hid hT4
    clear hT5 hT4
    clear HL1
    go_wp2
    go_ret
    refine ⟨⟨_, rfl⟩, S, ⟨A1, c1, ?_⟩, hF14.out, fun k hk => .inl hk⟩
    rw [HA.out, if_neg hq]
    exact HT5.out
end Go.Proofs.Ytcebckkpablagaa.M
