/- Encp -/
import Derived.Test.YtdgggjeiflllhaaZyTab
import Derived.Test.YtdgggjeiflllhaaZyRnum
import Derived.StillTailTactics

namespace Go.Proofs.Ytdgggjeiflllhaa.M
open Go.ChangeShapes Go.WideShapes Go.ChangeAt Go.RowKit
def bAuth : Bytes := [97, 117, 116, 104, 111, 114, 105, 122, 97, 116, 105, 111, 110]
def bCookie : Bytes := [99, 111, 111, 107, 105, 101]
def bSetCookie : Bytes := [115, 101, 116, 45, 99, 111, 111, 107, 105, 101]
def secret (n : Bytes) : Bool := decide (n = bAuth) || (decide (n = bCookie) || decide (n = bSetCookie))
def placeS (T : Tb) (f : Fld) : Nat × Bool :=
  match h2S f, T.find f with
  | (i, ok, whole), (k, there, all) =>
    if whole then (i, true) else if all then (61 + T.n - k, true) else if ok then (i, false) else if there then (61 + T.n - k, false) else (0, false)
def oneT (T : Tb) (f : Fld) : Tb :=
  if (placeS T f).2 then T else if secret f.1 then T else if T.cap / 2 < fsize f then T else T.add f
def linesT : Tb → List Fld → Tb
  | T, [] => T
  | T, f :: r => linesT (oneT T f) r
structure En where
  t : Tb
  least : Option Nat
def En.enc (E : En) (l : List Fld) : En := ⟨linesT E.t l, none⟩
def lim (n : Int) : Nat := (min (max n 0) 4096).toNat
def En.resize (E : En) (n : Int) : En := ⟨E.t.resize (lim n), some (match E.least with | none => lim n | some m => min m (lim n))⟩
def En.new (n : Int) : En := ⟨⟨[], 0, lim n⟩, none⟩
theorem lim_le (n : Int) : lim n ≤ 4096 := by unfold lim; omega
end Go.Proofs.Ytdgggjeiflllhaa.M
namespace Go.Proofs.Ytdgggjeiflllhaa.M
open Go.ChangeShapes Go.WideShapes Go.ChangeAt Go.RowKit
end Go.Proofs.Ytdgggjeiflllhaa.M
namespace Go.Proofs.Ytdgggjeiflllhaa.M
open Go.ChangeShapes Go.WideShapes Go.ChangeAt Go.RowKit
def TabS (S : Nat → Prop) (w : World) (g : Nat) (T : Tb) : Prop := ∃ A c a b ew en, TabAt S w g T.l T.n T.cap A c a b ew en
section
variable {S M : Nat → Prop} {w w' : World} {g : Nat} {T : Tb}
theorem TabS.keep (h : TabS S w g T) (f : Frm M w w') (hM : ∀ k, S k → ¬ M k) : TabS S w' g T := by
  obtain ⟨A, c, a, b, ew, en, h⟩ := h
  exact ⟨A, c, a, b, ew, en, h.keep f hM⟩
theorem TabS.fresh (h : TabS S w g T) (f : Frm (New w) w w') : TabS S w' g T := by
  obtain ⟨A, c, a, b, ew, en, h⟩ := h
  exact ⟨A, c, a, b, ew, en, h.fresh f⟩
theorem TabS.low (h : TabS S w g T) : ∀ k, S k → k < w.heap.size := by
  obtain ⟨A, c, a, b, ew, en, h⟩ := h
  exact h.low
theorem TabS.sg (h : TabS S w g T) : S g := by
  obtain ⟨A, c, a, b, ew, en, h⟩ := h
  exact h.sg
theorem TabS.nb (h : TabS S w g T) : T.l.length ≤ T.n ∧ T.n ≤ 1152921504606846976 := by
  obtain ⟨A, c, a, b, ew, en, h⟩ := h
  exact ⟨h.le, h.nb⟩
end
section
variable {S M : Nat → Prop} {w w' : World} {p g ls : Nat} {E : En} {ch : Bool}
end
end Go.Proofs.Ytdgggjeiflllhaa.M
namespace Go.Proofs.Ytdgggjeiflllhaa.M
open Go.ChangeShapes Go.WideShapes Go.ChangeAt Go.RowKit
end Go.Proofs.Ytdgggjeiflllhaa.M
namespace Go.Proofs.Ytdgggjeiflllhaa.M
open Go.ChangeShapes Go.WideShapes Go.ChangeAt Go.RowKit
theorem hgo_length : ∀ (l : List UInt8) (acc n : Nat), (hgo l acc n).length ≤ 5 * l.length + 1
  | [], _, _ => by unfold hgo; split <;> simp
  | b :: r, acc, n => by
    unfold hgo
    have h1 := emit_length 5 (acc * 2 ^ (codes.getD b.toNat (0, 0)).2 + (codes.getD b.toNat (0, 0)).1) (n + (codes.getD b.toNat (0, 0)).2)
    have h2 := hgo_length r ((acc * 2 ^ (codes.getD b.toNat (0, 0)).2 + (codes.getD b.toNat (0, 0)).1) % 2 ^ ((n + (codes.getD b.toNat (0, 0)).2) % 8)) ((n + (codes.getD b.toNat (0, 0)).2) % 8)
    simp only [List.length_append, List.length_cons]
    omega
theorem strc_le (a b k : Nat) (l : Bytes) : (strc a b k l).length ≤ 5 * l.length + 13 := by
  unfold strc
  split
  · have h1 := pfx_length a k (hlen l)
    have h2 := hgo_length l 0 0
    rw [List.length_append]
    show _ + (hgo l 0 0).length ≤ _
    omega
  · have := pfx_length b k l.length
    rw [List.length_append]; omega
theorem pfx_pos (f k v : Nat) : 0 < (pfx f k v).length := by
  unfold pfx
  split <;> simp
theorem Tb.add_cap (T : Tb) (x : Fld) : (T.add x).cap = T.cap := by
  unfold Tb.add
  split <;> rfl
end Go.Proofs.Ytdgggjeiflllhaa.M
namespace Go.Proofs.Ytdgggjeiflllhaa.M
open Go.ChangeShapes Go.WideShapes Go.ChangeAt Go.RowKit
end Go.Proofs.Ytdgggjeiflllhaa.M
namespace Go.Proofs.Ytdgggjeiflllhaa.M
open Go.ChangeShapes Go.WideShapes Go.ChangeAt Go.RowKit
def newestS (l : List Fld) (i : Nat) : Fld × Bool := if h : i < l.length then (l[l.length - 1 - i], true) else (([], []), false)
theorem aggf : Agg Try.prog 71 2 := ⟨⟨_, Try.underlying71, rfl⟩, by kernel_rfl⟩
theorem results_agg_tmp {P : Program} {T : TypeId} {n : Nat} (E : Agg P T n) {fn : Func} {p q : Tmp} (h : fn.results = #[.cell p T, .tmp q]) {tmps : Array Value} {w : World} {g : Nat} {t : TypeId} {cs : Array Value} {v : Value}
    (hp : tmps.getD p undef = .pointer (some ⟨g, 0, none⟩)) (hq : tmps.getD q undef = v) (hb : Blk w g t cs) (hn : cs.size = n) :
    (results fn tmps).run P w = .ok (.tuple #[.agg cs, v]) w := by
  obtain ⟨d, hu, hd⟩ := E.under
  have hp' : tmps[p]?.getD undef = .pointer (some ⟨g, 0, none⟩) := by simpa using hp
  have hq' : tmps[q]?.getD undef = v := by simpa using hq
  simp [results, h, hp', hq', asAddr, run_loadVar_row w g t T cs (0, 0) d hb hu (by cases d <;> first | rfl | cases hd) (by rw [E.size, hn])]
set_option maxRecDepth 100000 in
set_option maxHeartbeats 1000000 in
theorem rsecret_any (s : Bytes) (w : World) :
    Calls Try.prog 61 #[str s] w fun e w' => e = .returned (.bool (secret s)) ∧ w' = w := by
  simp only [str]
  have HS : Hid (secret s = (decide (s = bAuth) || (decide (s = bCookie) || decide (s = bSetCookie)))) := rfl
  have e1 : (⟨s.toArray⟩ : ByteArray).toList = s := mk_toList s
  by_cases h1 : s = bAuth
  · subst h1
    go_enter Try.func61, Try.ntmps61
    go_wp2
    go_ret
    exact ⟨rfl, rfl⟩
  · by_cases h2 : s = bCookie
    · subst h2
      go_enter Try.func61, Try.ntmps61
      go_wp2
      go_ret
      exact ⟨rfl, rfl⟩
    · by_cases h3 : s = bSetCookie
      · subst h3
        go_enter Try.func61, Try.ntmps61
        go_wp2
        go_ret
        exact ⟨rfl, rfl⟩
      · have hr : secret s = false := by rw [HS.out, decide_eq_false h1, decide_eq_false h2, decide_eq_false h3]; rfl
        have HR := Lib.hid hr
        clear hr HS
        go_enter Try.func61, Try.ntmps61
        go_wp2
        go_ret
        refine ⟨ret_bool ?_, rfl⟩
        rw [HR.out]
        simp only [Bool.or_eq_false_iff, beq_eq_false_iff_ne, ne_eq]
        exact ⟨⟨h1, h2⟩, h3⟩
set_option maxRecDepth 100000 in
set_option maxHeartbeats 1000000 in
theorem tnewest_any {S : Nat → Prop} {g : Nat} {T : Tb} (i : Nat) (w : World) (h : TabS S w g T) (hi : i ≤ 18446744073709551615) :
    Calls Try.prog 113 #[.pointer (some ⟨g, 0, none⟩), .int .u64 i] w fun e w' => e = .returned (.tuple #[fld (newestS T.l i).1, .bool (newestS T.l i).2]) ∧ Frm (New w) w w' := by
  obtain ⟨A, c, a, b, ew, en, h⟩ := h
  obtain ⟨l, n, cap⟩ := T
  simp only at h ⊢
  have hll := h.le
  have hnb := h.nb
  have hd0 := h.blk.cell 0
  have hg : g < w.heap.size := h.blk.lt
  have hR := h.app.rd
  simp only [List.getElem?_toArray, List.getElem?_cons_zero] at hd0
  clear h
  have HR := Lib.hid hR
  clear hR
  by_cases hq : i < l.length
  · have hN : Hid (newestS l i = (l[l.length - 1 - i], true)) := by show _ = _; unfold newestS; rw [dif_pos hq]
    have hj : l.length - 1 - i < l.length := by omega
    obtain ⟨gA, off, rfl, hx⟩ := HR.out.at_ (k := (l.length - 1 - i) * 2) (by rw [fvs_length]; omega)
    clear hx
    obtain ⟨hc1, hc2⟩ := fld_cells HR.out (l.length - 1 - i) hj
    have hgA : gA < w.heap.size := World.block_lt_of_cell? _ _ hc1
    generalize l[l.length - 1 - i] = f at *
    obtain ⟨f1, f2⟩ := f
    simp only [str] at hc1 hc2
    obtain ⟨j, hje⟩ : ∃ j, j = l.length - 1 - i := ⟨_, rfl⟩
    rw [← hje] at hc1 hc2 hj
    have hw0 : IntKind.u64.wrap (l.length : Int) = (l.length : Int) := IntWalk.u64_in _ (by omega)
    have hw1 : IntKind.u64.wrap ((l.length : Int) - 1) = ((l.length - 1 : Nat) : Int) := by
      rw [show ((l.length : Int) - 1) = ((l.length - 1 : Nat) : Int) from by omega]
      exact IntWalk.u64_in _ (by omega)
    have hw2 : IntKind.u64.wrap (((l.length - 1 : Nat) : Int) - (i : Int)) = (j : Int) := by
      rw [show (((l.length - 1 : Nat) : Int) - (i : Int)) = (j : Int) from by omega]
      exact IntWalk.u64_in _ (by omega)
    generalize hll1 : l.length - 1 = l1 at *
    generalize hln : l.length = ln at *
    have HJ := Lib.hid hje
    clear hje hll1 hln
    go_enter Try.func113, Try.ntmps113
    go_upto_region 3 with (fail)
    have hB1 := Blk.new w 71 #[.string ⟨#[]⟩, .string ⟨#[]⟩]
    have hF1 : Frm (New w) w (w.alloc (Obj.cells #[.string ⟨#[]⟩, .string ⟨#[]⟩] 71)) := (Frm.refl _ _).alloc Up.new _
    have hne : w.heap.size ≠ g := by omega
    have hd1 := (hF1.cell (p := ⟨g, 0, none⟩) (fun c => by unfold New at c; simp at c; omega)).trans hd0
    have hc3 := (hF1.cell (p := ⟨gA, off + j * 2, none⟩) (fun c => by unfold New at c; simp at c; omega)).trans hc1
    have hc4 := (hF1.cell (p := ⟨gA, off + j * 2 + 1, none⟩) (fun c => by unfold New at c; simp at c; omega)).trans hc2
    generalize w.alloc (Obj.cells #[.string ⟨#[]⟩, .string ⟨#[]⟩] 71) = w1 at *
    have hx1 := hB1.cell 0
    have hx2 := hB1.cell 1
    have hz1 := hB1.frozen 0
    have hz2 := hB1.frozen 1
    have hb1 : w.heap.size < w1.heap.size := hB1.lt
    have hg1 : g < w1.heap.size := by omega
    have hgA1 : gA < w1.heap.size := by omega
    simp only [List.getElem?_toArray, List.getElem?_cons_zero, List.getElem?_cons_succ] at hx1 hx2
    have HB1 := Lib.hid hB1
    have HF1 := Lib.hid hF1
    clear hB1 hF1 hd0 hc1 hc2 hg hgA
    obtain ⟨b, hbe⟩ : ∃ b, b = w.heap.size := ⟨_, rfl⟩
    rw [← hbe] at hx1 hx2 hz1 hz2 hb1 HB1 hne ⊢
    have HBE := Lib.hid hbe
    clear hbe
    go_still_tail 15, (by kernel_rfl)
    change wpList _ _ _ _ _ w1.drew
    go_wp2
    refine bodyPost_ret (results_agg_tmp aggf rfl rfl rfl ((HB1.out.drew.set_ 0 (.string ⟨f1.toArray⟩)).set_ 1 (.string ⟨f2.toArray⟩)) rfl) rfl ?_
    rw [hN.out]
    exact ⟨rfl, (HF1.out.drew.setCell (p := ⟨b, 0, none⟩) (by rw [HBE.out]; exact Nat.le_refl _) _).setCell (p := ⟨b, 1, none⟩) (by rw [HBE.out]; exact Nat.le_refl _) _⟩
  · have hN : Hid (newestS l i = (([], []), false)) := by show _ = _; unfold newestS; rw [dif_neg hq]
    go_enter Try.func113, Try.ntmps113
    go_wp2
    refine bodyPost_ret (results_agg_tmp aggf rfl rfl rfl (Blk.new w 71 #[.string ⟨#[]⟩, .string ⟨#[]⟩]) rfl) rfl ?_
    rw [hN.out]
    exact ⟨rfl, (Frm.refl _ _).alloc Up.new _⟩
end Go.Proofs.Ytdgggjeiflllhaa.M
namespace Go.Proofs.Ytdgggjeiflllhaa.M
open Go.ChangeShapes Go.WideShapes Go.ChangeAt Go.RowKit
set_option maxRecDepth 100000 in
set_option maxHeartbeats 1000000 in
theorem tresize_any {S : Nat → Prop} {g : Nat} {T : Tb} (c : Nat) (w : World) (h : TabS S w g T) (hc : c ≤ 1152921504606846976) :
    Calls Try.prog 112 #[.pointer (some ⟨g, 0, none⟩), .int .i64 c] w fun e w' => (∃ m : Int, e = .returned (.int .i64 m)) ∧ TabS S w' g (T.resize c) ∧ Frm (Own S w) w w' := by
  obtain ⟨A, cA, a, b, ew, en, h⟩ := h
  obtain ⟨l, n, cap⟩ := T
  simp only at h
  have hg : g < w.heap.size := h.blk.lt
  have hd2 := h.blk.cell 2
  have hz2 := h.blk.frozen 2
  simp only [List.getElem?_toArray, List.getElem?_cons_zero, List.getElem?_cons_succ] at hd2
  have hb := h.blk.set_ 2 (.int .i64 c)
  have hF : Frm (fun k => k = g) w (w.setCell ⟨g, 2, none⟩ (.int .i64 c)) := (Frm.refl (fun k => k = g) w).setCell (p := ⟨g, 2, none⟩) rfl _
  have hT : TabAt S (w.setCell ⟨g, 2, none⟩ (.int .i64 c)) g l n c A cA a b ew en :=
    { h with
      blk := by simpa using hb
      mw := h.mw.keep hF (fun e => h.ga e.symm)
      mn := h.mn.keep hF (fun e => h.gb e.symm)
      app := h.app.keep hF (fun k hk => (h.gA k hk).1)
      low := fun k hk => Nat.lt_of_lt_of_le (h.low k hk) hF.size
      cb := hc }
  have HT := Lib.hid hT
  have HF : Hid (Frm (Own S w) w (w.setCell ⟨g, 2, none⟩ (.int .i64 c))) := hF.mono (fun k hk => .inl (by rw [hk]; exact h.sg))
  have HSZ : Hid ((w.setCell ⟨g, 2, none⟩ (.int .i64 c)).heap.size = w.heap.size) := by show _ = _; simp
  have hmx := evict_length 0 c l
  have hln := h.le
  have hnb := h.nb
  clear h hb hF hT
  have hfit : Calls Try.prog 135 #[.pointer (some ⟨g, 0, none⟩), .int .i64 0] (w.setCell ⟨g, 2, none⟩ (.int .i64 c)) fun e w' => e = .returned (.int .i64 ((l.length - (evict 0 c l).length : Nat) : Int)) ∧
      ∃ A' c' ew' en', TabAt S w' g (evict 0 c l) n c A' c' a b ew' en' ∧ Frm (Own S (w.setCell ⟨g, 2, none⟩ (.int .i64 c))) (w.setCell ⟨g, 2, none⟩ (.int .i64 c)) w' := fit_any 0 _ HT.out (by omega)
  generalize hm : l.length - (evict 0 c l).length = m at *
  have HFIT := Lib.hid hfit
  have hc0 : ¬ ((c : Int) < 0) := by omega
  have hc1 : (0 : Int) ≤ (c : Int) := by omega
  clear hfit hm hmx
  go_enter Try.func112, Try.ntmps112
  go_upto_region 2 with (fail)
  generalize w.setCell ⟨g, 2, none⟩ (.int .i64 c) = w1 at *
  go_wp2_with (fail)
  refine HFIT.out.mono ?_
  rintro e w3 ⟨rfl, A1, c1, ew1, en1, hT3, hF3⟩
  have HT3 := Lib.hid hT3
  have HF3 := Lib.hid hF3
  clear hT3 hF3 HFIT HT hd2 hz2 hc0 hln hnb
  go_wp2
  go_ret
  refine ⟨⟨_, rfl⟩, ⟨A1, c1, a, b, ew1, en1, HT3.out⟩, HF.out.trans (HF3.out.mono (fun k hk => ?_))⟩
  rcases hk with hk | hk
  · exact .inl hk
  · exact .inr (by rw [HSZ.out] at hk; exact hk)
end Go.Proofs.Ytdgggjeiflllhaa.M

