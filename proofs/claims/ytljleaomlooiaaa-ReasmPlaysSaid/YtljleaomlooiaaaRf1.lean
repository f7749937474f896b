/- The document's Buffer: New, check, Done, Top, Grow. No condition. -/
import Derived.BigQuiet
import Derived.Deep.CutBlock
import Derived.Lib.Hide
import Derived.IntWalk
import Derived.Deep.QuietTactic
import Derived.Test.YtljleaomlooiaaaRat
import Derived.Test.YtljleaomlooiaaaRsr
namespace Go.Proofs.Ytljleaomlooiaaa.M
open Go.ChangeShapes Go.WideShapes Go.ChangeAt Go.RowKit

def ukey (k : Nat) : Value := .int .u64 (k : Int)
theorem check_u64 (P : Program) (T : TypeId) (n : Nat) (e : Bool) (q : Int) (w : World) (h : P.underlying T = some (.int .u64)) : (Instr.checkKey e (n + 1) T (.int .u64 q)).run P w = .ok () w := by
  simp [Instr.checkKey, run_underlying h]
theorem ukeys : KeyLaw Try.prog 27 ukey where
  check := fun e k w => check_u64 _ _ 9999 e k w Try.underlying27
  find := find_now (enc := ukey) Try.underlying27 (fun a b => by
    simp only [Instr.sameNow, ukey]
    by_cases h : a = b
    · subst h; simp
    · have h2 : ¬ ((a : Int) = (b : Int)) := by omega
      simp [h, h2])
  same := fun k => by
    show ((IntKind.u64 == IntKind.u64) && ((k : Int) == (k : Int))) = true
    simp
theorem zu8 : (Try.prog.info? 5).map (·.zero) = some (some (.int .u8 0)) := by kernel_rfl
/-- the document's buffer -/
structure Rf where
  mx : Nat
  es : List (Nat × Value)
  a : Nat
  en : Nat
  fin : Nat
  known : Bool
  gone : Bool
def Rf.cells (F : Rf) (m : Nat) : Array Value := #[.int .u64 F.mx, .map (some m), .int .u64 F.a, .int .u64 F.en, .int .u64 F.fin, .bool F.known, .bool F.gone]
def Rf.chk (F : Rf) (stop : Nat) (over f : Bool) : Nat :=
  if over = true ∨ F.mx < stop then 31 else if (F.known = true ∧ (F.fin < stop ∨ (f = true ∧ stop ≠ F.fin))) ∨ (f = true ∧ stop < F.en) then 42 else 0
def Rf.done (F : Rf) : Bool := F.gone || (F.known && decide (F.a = F.fin))
def Rf.top (F : Rf) : Nat := if F.known = true then F.fin else F.en

set_option maxRecDepth 100000 in
set_option maxHeartbeats 4000000 in
theorem rcheck_any (F : Rf) (stop : Nat) (over f : Bool) (p m : Nat) (w : World) (h : Blk w p 48 (F.cells m)) :
    Calls Try.prog 26 #[.pointer (some ⟨p, 0, none⟩), .int .u64 stop, .bool over, .bool f] w fun e w' => e = .returned (.int .i64 (F.chk stop over f : Nat)) ∧ w' = w := by
  obtain ⟨mx, es, a, en, fin, known, gone⟩ := F
  have hO : Hid (Rf.chk ⟨mx, es, a, en, fin, known, gone⟩ stop over f = if over = true ∨ mx < stop then 31 else if (known = true ∧ (fin < stop ∨ (f = true ∧ stop ≠ fin))) ∨ (f = true ∧ stop < en) then 42 else 0) := rfl
  unfold Rf.cells at h
  simp only at h
  have h0 := h.cell 0
  have h3 := h.cell 3
  have h4 := h.cell 4
  have h5 := h.cell 5
  simp only [List.getElem?_toArray, List.getElem?_cons_zero, List.getElem?_cons_succ] at h0 h3 h4 h5
  have hp := h.lt
  have H := Lib.hid h
  clear h
  cases over with
  | true =>
    go_enter Try.func26, Try.ntmps26
    go_upto_region 2 with (fail)
    go_wp2
    go_ret
    rw [hO.out]
    exact ⟨by simp, rfl⟩
  | false =>
    by_cases hw : mx < stop
    · have hb : ((mx : Int) < (stop : Int)) := by omega
      go_enter Try.func26, Try.ntmps26
      go_upto_region 2 with (fail)
      go_wp2
      go_ret
      rw [hO.out]
      exact ⟨by simp [hw], rfl⟩
    · have hb : ¬ ((mx : Int) < (stop : Int)) := by omega
      have htail : ∀ (t : Bool), t = decide ((known = true ∧ (fin < stop ∨ (f = true ∧ stop ≠ fin))) ∨ (f = true ∧ stop < en)) → Rf.chk ⟨mx, es, a, en, fin, known, gone⟩ stop false f = if t = true then 42 else 0 := fun t ht => by
        rw [hO.out, ht, if_neg (by simp [hw])]
        simp only [decide_eq_true_eq]
      have HTAIL := Lib.hid htail
      clear htail
      cases known with
      | false =>
        cases f with
        | false =>
          have hx := HTAIL.out false (by simp)
          have HX := Lib.hid hx
          clear hx
          go_enter Try.func26, Try.ntmps26
          go_upto_region 5 with (fail)
          go_wp2
          go_ret
          rw [HX.out]
          exact ⟨rfl, rfl⟩
        | true =>
          by_cases ht : stop < en
          · have hb2 : ((stop : Int) < (en : Int)) := by omega
            have hx := HTAIL.out true (by simp [ht])
            have HX := Lib.hid hx
            clear hx
            go_enter Try.func26, Try.ntmps26
            go_upto_region 4 with (fail)
            go_wp2
            go_ret
            rw [HX.out]
            exact ⟨rfl, rfl⟩
          · have hb2 : ¬ ((stop : Int) < (en : Int)) := by omega
            have hx := HTAIL.out false (by simp [ht])
            have HX := Lib.hid hx
            clear hx
            go_enter Try.func26, Try.ntmps26
            go_upto_region 5 with (fail)
            go_wp2
            go_ret
            rw [HX.out]
            exact ⟨rfl, rfl⟩
      | true =>
        by_cases hf : fin < stop
        · have hb1 : ((fin : Int) < (stop : Int)) := by omega
          have hx := HTAIL.out true (by simp [hf])
          have HX := Lib.hid hx
          clear hx
          go_enter Try.func26, Try.ntmps26
          go_upto_region 4 with (fail)
          go_wp2
          go_ret
          rw [HX.out]
          exact ⟨rfl, rfl⟩
        · have hb1 : ¬ ((fin : Int) < (stop : Int)) := by omega
          cases f with
          | false =>
            have hx := HTAIL.out false (by simp [hf])
            have HX := Lib.hid hx
            clear hx
            go_enter Try.func26, Try.ntmps26
            go_upto_region 5 with (fail)
            go_wp2
            go_ret
            rw [HX.out]
            exact ⟨rfl, rfl⟩
          | true =>
            by_cases hs : stop = fin
            · subst hs
              by_cases ht : stop < en
              · have hb2 : ((stop : Int) < (en : Int)) := by omega
                have hx := HTAIL.out true (by simp [ht])
                have HX := Lib.hid hx
                clear hx
                go_enter Try.func26, Try.ntmps26
                go_upto_region 4 with (fail)
                go_wp2
                go_ret
                rw [HX.out]
                exact ⟨rfl, rfl⟩
              · have hb2 : ¬ ((stop : Int) < (en : Int)) := by omega
                have hx := HTAIL.out false (by simp [ht])
                have HX := Lib.hid hx
                clear hx
                go_enter Try.func26, Try.ntmps26
                go_upto_region 5 with (fail)
                go_wp2
                go_ret
                rw [HX.out]
                exact ⟨rfl, rfl⟩
            · have hb2 : ((stop : Int) == (fin : Int)) = false := by rw [beq_eq_false_iff_ne]; omega
              have hb3 : ((stop : Int) != (fin : Int)) = true := by rw [bne, hb2]; rfl
              have hx := HTAIL.out true (by simp [hs])
              have HX := Lib.hid hx
              clear hx
              go_enter Try.func26, Try.ntmps26
              go_upto_region 4 with (fail)
              go_wp2
              go_ret
              rw [HX.out]
              exact ⟨rfl, rfl⟩

set_option maxRecDepth 100000 in
set_option maxHeartbeats 1000000 in
theorem rdone_any (F : Rf) (p m : Nat) (w : World) (h : Blk w p 48 (F.cells m)) :
    Calls Try.prog 21 #[.pointer (some ⟨p, 0, none⟩)] w fun e w' => e = .returned (.bool F.done) ∧ ∃ q, w' = w.drewN q := by
  obtain ⟨mx, es, a, en, fin, known, gone⟩ := F
  have hO : Hid (Rf.done ⟨mx, es, a, en, fin, known, gone⟩ = (gone || (known && decide (a = fin)))) := rfl
  unfold Rf.cells at h
  simp only at h
  have h2 := h.cell 2
  have h4 := h.cell 4
  have h5 := h.cell 5
  have h6 := h.cell 6
  simp only [List.getElem?_toArray, List.getElem?_cons_zero, List.getElem?_cons_succ] at h2 h4 h5 h6
  have hp := h.lt
  have H := Lib.hid h
  clear h
  go_enter Try.func21, Try.ntmps21
  go_upto_region 1 with (fail)
  cases gone with
  | true =>
    go_quiet (fail)
    go_wp2
    go_ret
    rw [hO.out]
    exact ⟨rfl, _, rfl⟩
  | false =>
    cases known with
    | false =>
      go_quiet (fail)
      go_wp2
      go_ret
      rw [hO.out]
      exact ⟨rfl, _, rfl⟩
    | true =>
      by_cases he : a = fin
      · subst he
        go_quiet (fail)
        go_wp2
        go_ret
        rw [hO.out]
        exact ⟨by simp, _, rfl⟩
      · have hb : ((a : Int) == (fin : Int)) = false := by rw [beq_eq_false_iff_ne]; omega
        have hd : decide (a = fin) = false := decide_eq_false he
        go_quiet (fail)
        go_wp2
        go_ret
        rw [hO.out]
        exact ⟨by simp [he], _, rfl⟩

set_option maxRecDepth 100000 in
set_option maxHeartbeats 1000000 in
theorem rtop_any (F : Rf) (p m : Nat) (w : World) (h : Blk w p 48 (F.cells m)) :
    Calls Try.prog 22 #[.pointer (some ⟨p, 0, none⟩)] w fun e w' => e = .returned (.int .u64 F.top) ∧ w' = w := by
  obtain ⟨mx, es, a, en, fin, known, gone⟩ := F
  have hO : Hid (Rf.top ⟨mx, es, a, en, fin, known, gone⟩ = if known = true then fin else en) := rfl
  unfold Rf.cells at h
  simp only at h
  have h3 := h.cell 3
  have h4 := h.cell 4
  have h5 := h.cell 5
  simp only [List.getElem?_toArray, List.getElem?_cons_zero, List.getElem?_cons_succ] at h3 h4 h5
  have hp := h.lt
  have H := Lib.hid h
  clear h
  go_enter Try.func22, Try.ntmps22
  cases known with
  | true =>
    go_wp2
    go_ret
    rw [hO.out]
    exact ⟨rfl, rfl⟩
  | false =>
    go_wp2
    go_ret
    rw [hO.out]
    exact ⟨rfl, rfl⟩

set_option maxRecDepth 100000 in
set_option maxHeartbeats 1000000 in
theorem rgrow_any (F : Rf) (most : Nat) (p m : Nat) (w : World) (h : Blk w p 48 (F.cells m)) :
    Calls Try.prog 19 #[.pointer (some ⟨p, 0, none⟩), .int .u64 most] w fun e w' =>
      e = .returned (.tuple #[]) ∧ Blk w' p 48 ({ F with mx := max F.mx (min most 4611686018427387903) }.cells m) ∧ Frm (· = p) w w' := by
  obtain ⟨win, es, a, en, fin, known, gone⟩ := F
  unfold Rf.cells at h
  simp only at h
  simp only
  generalize hmx : max win (min most 4611686018427387903) = mx
  have HX := Lib.hid hmx
  clear hmx
  have h0 := h.cell 0
  simp only [List.getElem?_toArray, List.getElem?_cons_zero] at h0
  have hz := h.frozen 0
  have hp := h.lt
  have H := Lib.hid h
  clear h
  have hfin : ∀ v : Nat, v = mx → Blk (w.setCell ⟨p, 0, none⟩ (.int .u64 v)) p 48 (Rf.cells ⟨mx, es, a, en, fin, known, gone⟩ m) ∧ Frm (· = p) w (w.setCell ⟨p, 0, none⟩ (.int .u64 v)) := fun v hv => by
    subst hv
    exact ⟨H.out.set_ 0 _, (Frm.refl (fun k => k = p) w).setCell (p := ⟨p, 0, none⟩) rfl _⟩
  by_cases hm : most ≤ 4611686018427387903
  · have hm1 : ¬ ((4611686018427387903 : Int) < most) := by omega
    go_enter Try.func19, Try.ntmps19
    go_wp2
    · go_end0
      exact ⟨rfl, hfin most (by have := HX.out; omega)⟩
    · go_end0
      exact ⟨rfl, hfin win (by have := HX.out; omega)⟩
  · by_cases hx : win < 4611686018427387903
    · have hm1 : ((4611686018427387903 : Int) < most) := by omega
      have hx1 : ((win : Int) < 4611686018427387903) := by omega
      go_enter Try.func19, Try.ntmps19
      go_wp2
      go_end0
      exact ⟨rfl, hfin 4611686018427387903 (by have := HX.out; omega)⟩
    · have hm1 : ((4611686018427387903 : Int) < most) := by omega
      have hx1 : ¬ ((win : Int) < 4611686018427387903) := by omega
      go_enter Try.func19, Try.ntmps19
      go_wp2
      go_end0
      exact ⟨rfl, hfin win (by have := HX.out; omega)⟩

set_option maxRecDepth 100000 in
set_option maxHeartbeats 1000000 in
theorem rnew_any (win : Nat) (w : World) : Calls Try.prog 16 #[.int .u64 win] w fun e w' =>
    e = .returned (.pointer (some ⟨w.heap.size + 1, 0, none⟩)) ∧ w' = (w.alloc (.map #[] 0)).alloc (.cells (Rf.cells ⟨min win 4611686018427387903, [], 0, 0, 0, false, false⟩ w.heap.size) 48) := by
  go_enter Try.func16, Try.ntmps16
  go_wp2
  · rw [run_makeMap]
    go_wp2
    go_ret
    refine ⟨rfl, ?_⟩
    rw [show min win 4611686018427387903 = 4611686018427387903 by omega]
    rfl
  · rw [run_makeMap]
    go_wp2
    go_ret
    refine ⟨rfl, ?_⟩
    rw [show min win 4611686018427387903 = win by omega]
    rfl
/-- the document's buffer in memory -/
structure RfAt (S : Nat → Prop) (w : World) (q : Nat) (F : Rf) (m : Nat) : Prop where
  blk : Blk w q 48 (F.cells m)
  map : MapIs w m ukey F.es
  sq : S q
  sm : S m
  qm : q ≠ m
  low : ∀ k, S k → k < w.heap.size
section
variable {S M' : Nat → Prop} {w w' : World} {q m : Nat} {F : Rf}
theorem RfAt.keep (h : RfAt S w q F m) (f : Frm M' w w') (hM : ∀ k, S k → ¬ M' k) : RfAt S w' q F m :=
  { h with
    blk := h.blk.keep f (hM _ h.sq)
    map := h.map.keep f (hM _ h.sm)
    low := fun k hk => Nat.lt_of_lt_of_le (h.low k hk) f.size }
theorem RfAt.fresh (h : RfAt S w q F m) (f : Frm (New w) w w') : RfAt S w' q F m := h.keep f (fun k hk c => by have := h.low k hk; unfold New at c; omega)
theorem RfAt.head {F' : Rf} (h : RfAt S w q F m) (hb : Blk w' q 48 (F'.cells m)) (hl : F'.es = F.es) (f : Frm (fun k => k = q) w w') : RfAt S w' q F' m :=
  ⟨hb, by rw [hl]; exact h.map.keep f (fun e => h.qm e.symm), h.sq, h.sm, h.qm, fun k hk => Nat.lt_of_lt_of_le (h.low k hk) f.size⟩
end
theorem rnew_at (win : Nat) (w : World) : RfAt (fun k => k = w.heap.size ∨ k = w.heap.size + 1) ((w.alloc (.map #[] 0)).alloc (.cells (Rf.cells ⟨min win 4611686018427387903, [], 0, 0, 0, false, false⟩ w.heap.size) 48)) (w.heap.size + 1) ⟨min win 4611686018427387903, [], 0, 0, 0, false, false⟩ w.heap.size ∧
    Frm (New w) w ((w.alloc (.map #[] 0)).alloc (.cells (Rf.cells ⟨min win 4611686018427387903, [], 0, 0, 0, false, false⟩ w.heap.size) 48)) := by
  have h1 := MapIs.new w ukey
  have f1 := (Frm.refl (New w) w).alloc Up.new (Obj.map #[] 0)
  have hs : (w.alloc (Obj.map #[] 0)).heap.size = w.heap.size + 1 := by simp
  have hb := Blk.new (w.alloc (Obj.map #[] 0)) 48 (Rf.cells ⟨min win 4611686018427387903, [], 0, 0, 0, false, false⟩ w.heap.size)
  rw [hs] at hb
  have f2 := (Frm.refl (New (w.alloc (Obj.map #[] 0))) (w.alloc (Obj.map #[] 0))).alloc Up.new (.cells (Rf.cells ⟨min win 4611686018427387903, [], 0, 0, 0, false, false⟩ w.heap.size) 48)
  refine ⟨⟨hb, h1.fresh f2, .inr rfl, .inl rfl, by omega, fun k hk => ?_⟩, f1.then_new Up.new f2⟩
  have := hb.lt
  rcases hk with hk | hk <;> omega
end Go.Proofs.Ytljleaomlooiaaa.M
