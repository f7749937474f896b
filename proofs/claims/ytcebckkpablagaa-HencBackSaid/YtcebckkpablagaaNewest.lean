/- dyn.Table.Newest; the reference's Secret. No condition. -/
import Derived.Test.YtcebckkpablagaaEnca
import Derived.StillTailTactics
namespace Go.Proofs.Ytcebckkpablagaa.M
open Go.ChangeShapes Go.WideShapes Go.ChangeAt Go.RowKit

/-- Newest's answer -/
def newestS (l : List Fld) (i : Nat) : Fld × Bool := if h : i < l.length then (l[l.length - 1 - i], true) else (([], []), false)
theorem fld_zero : fld ([], []) = .agg #[.string ⟨#[]⟩, .string ⟨#[]⟩] := rfl
theorem aggf : Agg Try.prog 30 2 := ⟨⟨_, Try.underlying30, rfl⟩, by kernel_rfl⟩
/-- a result that lies in a variable, and one that does not -/
theorem results_agg_tmp {P : Program} {T : TypeId} {n : Nat} (E : Agg P T n) {fn : Func} {p q : Tmp} (h : fn.results = #[.cell p T, .tmp q]) {tmps : Array Value} {w : World} {g : Nat} {t : TypeId} {cs : Array Value} {v : Value}
    (hp : tmps.getD p undef = .pointer (some ⟨g, 0, none⟩)) (hq : tmps.getD q undef = v) (hb : Blk w g t cs) (hn : cs.size = n) :
    (results fn tmps).run P w = .ok (.tuple #[.agg cs, v]) w := by
  obtain ⟨d, hu, hd⟩ := E.under
  have hp' : tmps[p]?.getD undef = .pointer (some ⟨g, 0, none⟩) := by simpa using hp
  have hq' : tmps[q]?.getD undef = v := by simpa using hq
  simp [results, h, hp', hq', asAddr, run_loadVar_row w g t T cs (0, 0) d hb hu (by cases d <;> first | rfl | cases hd) (by rw [E.size, hn])]

set_option maxRecDepth 100000 in
set_option maxHeartbeats 1000000 in
theorem rsecret_any (s : Bytes) (w : World) :
    Calls Try.prog 19 #[str s] w fun e w' => e = .returned (.bool (secret s)) ∧ w' = w := by
  simp only [str]
  have HS : Hid (secret s = (decide (s = bAuth) || (decide (s = bCookie) || decide (s = bSetCookie)))) := rfl
  have e1 : (⟨s.toArray⟩ : ByteArray).toList = s := mk_toList s
  by_cases h1 : s = bAuth
  · subst h1
    go_enter Try.func19, Try.ntmps19
    go_wp2
    go_ret
    exact ⟨rfl, rfl⟩
  · by_cases h2 : s = bCookie
    · subst h2
      go_enter Try.func19, Try.ntmps19
      go_wp2
      go_ret
      exact ⟨rfl, rfl⟩
    · by_cases h3 : s = bSetCookie
      · subst h3
        go_enter Try.func19, Try.ntmps19
        go_wp2
        go_ret
        exact ⟨rfl, rfl⟩
      · have hr : secret s = false := by rw [HS.out, decide_eq_false h1, decide_eq_false h2, decide_eq_false h3]; rfl
        have HR := Lib.hid hr
        clear hr HS
        go_enter Try.func19, Try.ntmps19
        go_wp2
        go_ret
        refine ⟨ret_bool ?_, rfl⟩
        rw [HR.out]
        simp only [Bool.or_eq_false_iff, beq_eq_false_iff_ne, ne_eq]
        exact ⟨⟨h1, h2⟩, h3⟩

set_option maxRecDepth 100000 in
set_option maxHeartbeats 1000000 in
theorem tnewest_any {S : Nat → Prop} {g : Nat} {T : Tb} (i : Nat) (w : World) (h : TabS S w g T) (hi : i ≤ 18446744073709551615) :
    Calls Try.prog 24 #[.pointer (some ⟨g, 0, none⟩), .int .u64 i] w fun e w' => e = .returned (.tuple #[fld (newestS T.l i).1, .bool (newestS T.l i).2]) ∧ Frm (New w) w w' := by
  obtain ⟨A, c, a, b, ew, en, h⟩ := h
  obtain ⟨l, n, cap⟩ := T
  simp only at h ⊢
  have hll := h.le
  have hnb := h.nb
  have hd0 := h.blk.cell 0
  have hg : g < w.heap.size := h.blk.lt
  have hR := h.app.rd
  simp only [List.getElem?_toArray, List.getElem?_cons_zero] at hd0
  clear h
  have HR := Lib.hid hR
  clear hR
  by_cases hq : i < l.length
  · have hN : Hid (newestS l i = (l[l.length - 1 - i], true)) := by show _ = _; unfold newestS; rw [dif_pos hq]
    have hj : l.length - 1 - i < l.length := by omega
    obtain ⟨gA, off, rfl, hx⟩ := HR.out.at_ (k := (l.length - 1 - i) * 2) (by rw [fvs_length]; omega)
    clear hx
    obtain ⟨hc1, hc2⟩ := fld_cells HR.out (l.length - 1 - i) hj
    have hgA : gA < w.heap.size := World.block_lt_of_cell? _ _ hc1
    generalize l[l.length - 1 - i] = f at *
    obtain ⟨f1, f2⟩ := f
    simp only [str] at hc1 hc2
    obtain ⟨j, hje⟩ : ∃ j, j = l.length - 1 - i := ⟨_, rfl⟩
    rw [← hje] at hc1 hc2 hj
    have hw0 : IntKind.u64.wrap (l.length : Int) = (l.length : Int) := IntWalk.u64_in _ (by omega)
    have hw1 : IntKind.u64.wrap ((l.length : Int) - 1) = ((l.length - 1 : Nat) : Int) := by
      rw [show ((l.length : Int) - 1) = ((l.length - 1 : Nat) : Int) from by omega]
      exact IntWalk.u64_in _ (by omega)
    have hw2 : IntKind.u64.wrap (((l.length - 1 : Nat) : Int) - (i : Int)) = (j : Int) := by
      rw [show (((l.length - 1 : Nat) : Int) - (i : Int)) = (j : Int) from by omega]
      exact IntWalk.u64_in _ (by omega)
    generalize hll1 : l.length - 1 = l1 at *
    generalize hln : l.length = ln at *
    have HJ := Lib.hid hje
    clear hje hll1 hln
    go_enter Try.func24, Try.ntmps24
    go_upto_region 3 with (fail)
    have hB1 := Blk.new w 30 #[.string ⟨#[]⟩, .string ⟨#[]⟩]
    have hF1 : Frm (New w) w (w.alloc (Obj.cells #[.string ⟨#[]⟩, .string ⟨#[]⟩] 30)) := (Frm.refl _ _).alloc Up.new _
    have hne : w.heap.size ≠ g := by omega
    have hd1 := (hF1.cell (p := ⟨g, 0, none⟩) (fun c => by unfold New at c; simp at c; omega)).trans hd0
    have hc3 := (hF1.cell (p := ⟨gA, off + j * 2, none⟩) (fun c => by unfold New at c; simp at c; omega)).trans hc1
    have hc4 := (hF1.cell (p := ⟨gA, off + j * 2 + 1, none⟩) (fun c => by unfold New at c; simp at c; omega)).trans hc2
    generalize w.alloc (Obj.cells #[.string ⟨#[]⟩, .string ⟨#[]⟩] 30) = w1 at *
    have hx1 := hB1.cell 0
    have hx2 := hB1.cell 1
    have hz1 := hB1.frozen 0
    have hz2 := hB1.frozen 1
    have hb1 : w.heap.size < w1.heap.size := hB1.lt
    have hg1 : g < w1.heap.size := by omega
    have hgA1 : gA < w1.heap.size := by omega
    simp only [List.getElem?_toArray, List.getElem?_cons_zero, List.getElem?_cons_succ] at hx1 hx2
    have HB1 := Lib.hid hB1
    have HF1 := Lib.hid hF1
    clear hB1 hF1 hd0 hc1 hc2 hg hgA
    obtain ⟨b, hbe⟩ : ∃ b, b = w.heap.size := ⟨_, rfl⟩
    rw [← hbe] at hx1 hx2 hz1 hz2 hb1 HB1 hne ⊢
    have HBE := Lib.hid hbe
    clear hbe
    go_still_tail 15, (by kernel_rfl)
    change wpList _ _ _ _ _ w1.drew
    go_wp2
    refine bodyPost_ret (results_agg_tmp aggf rfl rfl rfl ((HB1.out.drew.set_ 0 (.string ⟨f1.toArray⟩)).set_ 1 (.string ⟨f2.toArray⟩)) rfl) rfl ?_
    rw [hN.out]
    exact ⟨rfl, (HF1.out.drew.setCell (p := ⟨b, 0, none⟩) (by rw [HBE.out]; exact Nat.le_refl _) _).setCell (p := ⟨b, 1, none⟩) (by rw [HBE.out]; exact Nat.le_refl _) _⟩
  · have hN : Hid (newestS l i = (([], []), false)) := by show _ = _; unfold newestS; rw [dif_neg hq]
    go_enter Try.func24, Try.ntmps24
    go_wp2
    refine bodyPost_ret (results_agg_tmp aggf rfl rfl rfl (Blk.new w 30 #[.string ⟨#[]⟩, .string ⟨#[]⟩]) rfl) rfl ?_
    rw [hN.out]
    exact ⟨rfl, (Frm.refl _ _).alloc Up.new _⟩
end Go.Proofs.Ytcebckkpablagaa.M
