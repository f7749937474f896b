/- static.at, H2; hdec's entry. hdec's literal. -/
import Derived.Deep.CutBlock
import Derived.Test.YtcebckkpablagaaHrd
import Derived.Test.YtcebckkpablagaaNewest
import Derived.Test.YtcebckkpablagaaKey
namespace Go.Proofs.Ytcebckkpablagaa.M
open Go.ChangeShapes Go.WideShapes Go.ChangeAt Go.RowKit

/-- an entry, and whether there is one -/
def entV (o : Option Fld) : Fld × Bool := match o with | some f => (f, true) | none => (([], []), false)

set_option maxRecDepth 100000 in
set_option maxHeartbeats 1000000 in
theorem sat_any (l : List Fld) (A : Option Addr) (c i : Nat) (w : World) (hR : Rd w A (fvs l)) (hl : l.length ≤ 1152921504606846976) :
    Calls Try.prog 104 #[.slice A l.length c, .int .u64 i] w fun e w' => e = .returned (.tuple #[fld (entV l[i]?).1, .bool (entV l[i]?).2]) ∧ Frm (New w) w w' := by
  have hB1 := Blk.new w 30 #[.string ⟨#[]⟩, .string ⟨#[]⟩]
  have hF1 : Frm (New w) w (w.alloc (Obj.cells #[.string ⟨#[]⟩, .string ⟨#[]⟩] 30)) := (Frm.refl _ _).alloc Up.new _
  have hw0 : IntKind.u64.wrap (l.length : Int) = (l.length : Int) := IntWalk.u64_in _ (by omega)
  have hR1 := hR.fresh hF1
  by_cases hq : i < l.length
  · have hE : Hid (entV l[i]? = (l[i], true)) := by show _ = _; rw [List.getElem?_eq_getElem hq]; rfl
    rw [hE.out]
    clear hE
    obtain ⟨gA, off, rfl, hx⟩ := hR1.at_ (k := i * 2) (by rw [fvs_length]; omega)
    clear hx
    obtain ⟨hc1, hc2⟩ := fld_cells hR1 i hq
    obtain ⟨hc3, _⟩ := fld_cells hR i hq
    have hgA : gA < w.heap.size := World.block_lt_of_cell? _ _ hc3
    clear hc3
    generalize l[i] = f at *
    obtain ⟨f1, f2⟩ := f
    simp only [str] at hc1 hc2
    have HR := Lib.hid hR
    have HR1 := Lib.hid hR1
    have HB1 := Lib.hid hB1
    have HF1 := Lib.hid hF1
    clear hR hR1 hB1 hF1
    go_enter Try.func104, Try.ntmps104
    go_upto_region 1 with (fail)
    generalize w.alloc (Obj.cells #[.string ⟨#[]⟩, .string ⟨#[]⟩] 30) = w1 at *
    have hB := HB1.out
    have hx1 := hB.cell 0
    have hx2 := hB.cell 1
    simp only [List.getElem?_toArray, List.getElem?_cons_zero, List.getElem?_cons_succ] at hx1 hx2
    have hz1 := hB.frozen 0
    have hz2 := hB.frozen 1
    have hbl := hB.lt
    clear hB
    generalize hb : w.heap.size = b at *
    have hne : ¬ b = gA := by omega
    have hgA1 : gA < w1.heap.size := World.block_lt_of_cell? _ _ hc1
    have HB := Lib.hid hb
    clear hb
    go_wp2
    refine bodyPost_ret (results_agg_tmp aggf rfl rfl rfl ((HB1.out.set_ 0 (.string ⟨f1.toArray⟩)).set_ 1 (.string ⟨f2.toArray⟩)) rfl) rfl ?_
    exact ⟨rfl, (HF1.out.setCell (p := ⟨b, 0, none⟩) (by have := HB.out; unfold New; simp only; omega) _).setCell (p := ⟨b, 1, none⟩) (by have := HB.out; unfold New; simp only; omega) _⟩
  · have hE : Hid (entV l[i]? = (([], []), false)) := by show _ = _; rw [List.getElem?_eq_none (by omega)]; rfl
    rw [hE.out]
    clear hE
    have HR := Lib.hid hR
    have HR1 := Lib.hid hR1
    have HB1 := Lib.hid hB1
    have HF1 := Lib.hid hF1
    clear hR hR1 hB1 hF1
    go_enter Try.func104, Try.ntmps104
    go_upto_region 1 with (fail)
    generalize w.alloc (Obj.cells #[.string ⟨#[]⟩, .string ⟨#[]⟩] 30) = w1 at *
    have hB := HB1.out
    have hx1 := hB.cell 0
    have hx2 := hB.cell 1
    simp only [List.getElem?_toArray, List.getElem?_cons_zero, List.getElem?_cons_succ] at hx1 hx2
    have hz1 := hB.frozen 0
    have hz2 := hB.frozen 1
    have hbl := hB.lt
    clear hB
    generalize hb : w.heap.size = b at *
    have HB := Lib.hid hb
    clear hb
    go_wp2
    refine bodyPost_ret (results_agg_tmp aggf rfl rfl rfl ((HB1.out.set_ 0 (.string ⟨#[]⟩)).set_ 1 (.string ⟨#[]⟩)) rfl) rfl ?_
    exact ⟨rfl, (HF1.out.setCell (p := ⟨b, 0, none⟩) (by have := HB.out; unfold New; simp only; omega) _).setCell (p := ⟨b, 1, none⟩) (by have := HB.out; unfold New; simp only; omega) _⟩

/-- HPACK's own table -/
def h2E (i : Nat) : Option Fld := if i = 0 then none else h2tab[i - 1]?
set_option maxRecDepth 100000 in
set_option maxHeartbeats 1000000 in
theorem sh2_any (i : Nat) (w : World) (hi : i ≤ 18446744073709551615) :
    Calls Try.prog 102 #[.int .u64 i] w fun e w' => e = .returned (.tuple #[fld (entV (h2E i)).1, .bool (entV (h2E i)).2]) ∧ Frm (New w) w w' := by
  have hB1 := Blk.new w 30 #[.string ⟨#[]⟩, .string ⟨#[]⟩]
  have hF1 : Frm (New w) w (w.alloc (Obj.cells #[.string ⟨#[]⟩, .string ⟨#[]⟩] 30)) := (Frm.refl _ _).alloc Up.new _
  have HB1 := Lib.hid hB1
  have HF1 := Lib.hid hF1
  clear hB1 hF1
  by_cases h0 : i = 0
  · subst h0
    have hE : Hid (entV (h2E 0) = (([], []), false)) := rfl
    rw [hE.out]
    clear hE
    rw [show ((0 : Nat) : Int) = 0 from rfl]
    go_enter Try.func102, Try.ntmps102
    go_upto_region 1 with (fail)
    generalize w.alloc (Obj.cells #[.string ⟨#[]⟩, .string ⟨#[]⟩] 30) = w1 at *
    have hB := HB1.out
    have hx1 := hB.cell 0
    have hx2 := hB.cell 1
    simp only [List.getElem?_toArray, List.getElem?_cons_zero, List.getElem?_cons_succ] at hx1 hx2
    have hz1 := hB.frozen 0
    have hz2 := hB.frozen 1
    have hbl := hB.lt
    clear hB
    generalize hb : w.heap.size = b at *
    have HB := Lib.hid hb
    clear hb
    go_wp2
    refine bodyPost_ret (results_agg_tmp aggf rfl rfl rfl ((HB1.out.set_ 0 (.string ⟨#[]⟩)).set_ 1 (.string ⟨#[]⟩)) rfl) rfl ?_
    exact ⟨rfl, (HF1.out.setCell (p := ⟨b, 0, none⟩) (by have := HB.out; unfold New; simp only; omega) _).setCell (p := ⟨b, 1, none⟩) (by have := HB.out; unfold New; simp only; omega) _⟩
  · have h0' : ((i : Int) == 0) = false := by rw [beq_eq_false_iff_ne]; omega
    have hw1 : IntKind.u64.wrap ((i : Int) - 1) = ((i - 1 : Nat) : Int) := by
      rw [show ((i : Int) - 1) = ((i - 1 : Nat) : Int) from by omega]; exact IntWalk.u64_in _ (by omega)
    have hsa := fun (g : Nat) w' (hw : Rd w' (some ⟨g, 0, none⟩) (fvs h2tab)) => sat_any h2tab (some ⟨g, 0, none⟩) 61 (i - 1) w' hw (by decide)
    have hE : Hid (h2E i = h2tab[i - 1]?) := by show _ = _; unfold h2E; rw [if_neg h0]
    have h61 : h2tab.length = 61 := by decide
    rw [h61] at hsa
    rw [hE.out]
    generalize entV h2tab[i - 1]? = q at *
    obtain ⟨⟨f1, f2⟩, ok⟩ := q
    simp only [fld, str] at hsa ⊢
    generalize i - 1 = j at *
    have HSA := Lib.hid hsa
    clear hsa
    clear hE
    go_enter Try.func102, Try.ntmps102
    go_upto_region 1 with (fail)
    generalize w.alloc (Obj.cells #[.string ⟨#[]⟩, .string ⟨#[]⟩] 30) = w1 at *
    generalize hb : w.heap.size = b at *
    have HB := Lib.hid hb
    clear hb
    go_wp2_with (fail)
    refine (one_any _).mono ?_
    rintro e w2 ⟨gs, rfl, hgs, hbs, hF2⟩
    have hB2 := HB1.out.fresh hF2
    have hF12 := HF1.out.then_new Up.new hF2
    have hRs : Rd w2 (some ⟨gs, 0, none⟩) (fvs h2tab) := by simpa using hbs.rd
    go_wp2_with (fail)
    refine (HSA.out gs w2 hRs).mono ?_
    rintro e w3 ⟨rfl, hF3⟩
    have hB3 := hB2.fresh hF3
    have hF13 := hF12.then_new Up.new hF3
    clear hB2 hF12 hRs hbs hF2 hF3
    have hx1 := hB3.cell 0
    have hx2 := hB3.cell 1
    simp only [List.getElem?_toArray, List.getElem?_cons_zero, List.getElem?_cons_succ] at hx1 hx2
    have hz1 := hB3.frozen 0
    have hz2 := hB3.frozen 1
    have hbl := hB3.lt
    have HB3 := Lib.hid hB3
    have HF13 := Lib.hid hF13
    clear hB3 hF13
    go_wp2
    refine bodyPost_ret (results_agg_tmp aggf rfl rfl rfl ((HB3.out.set_ 0 (.string ⟨f1.toArray⟩)).set_ 1 (.string ⟨f2.toArray⟩)) rfl) rfl ?_
    exact ⟨rfl, (HF13.out.setCell (p := ⟨b, 0, none⟩) (by have := HB.out; unfold New; simp only; omega) _).setCell (p := ⟨b, 1, none⟩) (by have := HB.out; unfold New; simp only; omega) _⟩

theorem entry_h2 (T : Tb) (i : Nat) : (i ≤ 61 → entryS T i = h2E i) ∧ (61 < i → h2E i = none ∧ entV (entryS T i) = newestS T.l (i - 62)) := by
  have h61 : h2tab.length = 61 := by decide
  constructor
  · intro h
    unfold entryS h2E
    by_cases h0 : i = 0
    · rw [if_pos h0, if_pos h0]
    · rw [if_neg h0, if_neg h0, if_pos h]
  · intro h
    constructor
    · unfold h2E
      rw [if_neg (by omega)]
      exact List.getElem?_eq_none (by omega)
    · unfold entV entryS newestS
      rw [if_neg (by omega), if_neg (by omega)]
      by_cases h1 : i - 62 < T.l.length
      · rw [if_pos h1, dif_pos h1, List.getElem?_eq_getElem (by omega)]
      · rw [if_neg h1, dif_neg h1]
theorem entV_some {o : Option Fld} {f : Fld} (h : entV o = (f, true)) : o = some f := by
  cases o with
  | none => simp [entV] at h
  | some g =>
    have h2 : (g, true) = (f, true) := h
    injection h2 with h3
    rw [h3]
theorem entV_none {o : Option Fld} {f : Fld} (h : entV o = (f, false)) : o = none := by
  cases o with
  | none => rfl
  | some g =>
    have h2 : (g, true) = (f, false) := h
    injection h2 with _ h3
    cases h3

/-- what entry hands back -/
def EnR (o : Option Fld) (K : World → Prop) (e : Ending) (w' : World) : Prop :=
  match o with
  | some f => e = .returned (fld f) ∧ K w'
  | none => e = PW ∧ K w'
set_option maxRecDepth 100000 in
set_option maxHeartbeats 1000000 in
theorem hentry_any {w wr : World} {S S' : Nat → Prop} {pd g pr up c co : Nat} {D : De} {T : Tb} {mu : Bool} {out : List Fld} {r : Bytes} {A Ao : Option Addr} (i : Nat) (h : HRM w S pd g D pr S' T mu up out r A c Ao co wr) (hi : i ≤ 18446744073709551615) :
    Calls Try.prog 97 #[.pointer (some ⟨pr, 0, none⟩), .int .u64 i] wr (EnR (entryS T i) fun w' => HRM w S pd g D pr S' T mu up out r A c Ao co w' ∧ Frm (New wr) wr w') := by
  have hB1 := Blk.new wr 30 #[.string ⟨#[]⟩, .string ⟨#[]⟩]
  have hF1 : Frm (New wr) wr (wr.alloc (Obj.cells #[.string ⟨#[]⟩, .string ⟨#[]⟩] 30)) := (Frm.refl _ _).alloc Up.new _
  have hh := fun w' => sh2_any i w' hi
  obtain ⟨he1, he2⟩ := entry_h2 T i
  have H := Lib.hid h
  have HB1 := Lib.hid hB1
  have HF1 := Lib.hid hF1
  clear h hB1 hF1
  by_cases h61 : i ≤ 61
  · have he := he1 h61
    rw [he]
    generalize hq : entV (h2E i) = q at *
    obtain ⟨⟨f1, f2⟩, ok⟩ := q
    simp only [fld, str] at hh
    have hi61 : ¬ (61 : Int) < (i : Int) := by omega
    have HH := Lib.hid hh
    clear hh
    clear he he1 he2
    go_enter Try.func97, Try.ntmps97
    go_upto_region 1 with (fail)
    generalize wr.alloc (Obj.cells #[.string ⟨#[]⟩, .string ⟨#[]⟩] 30) = w1 at *
    generalize hb : wr.heap.size = b at *
    have HB := Lib.hid hb
    clear hb
    go_wp2_with (fail)
    refine (HH.out _).mono ?_
    rintro e w2 ⟨rfl, hF2⟩
    go_upto_region 2 with (fail)
    have hB5 := Blk.new w2 30 #[.string ⟨f1.toArray⟩, .string ⟨f2.toArray⟩]
    have hF5 := (Frm.refl (New w2) w2).alloc Up.new (Obj.cells #[.string ⟨f1.toArray⟩, .string ⟨f2.toArray⟩] 30)
    have hB3 := (HB1.out.fresh hF2).fresh hF5
    have hF13 := (HF1.out.then_new Up.new hF2).then_new Up.new hF5
    have hb2 := (HB1.out.fresh hF2).lt
    generalize w2.alloc (Obj.cells #[.string ⟨f1.toArray⟩, .string ⟨f2.toArray⟩] 30) = w3 at *
    generalize hbz : w2.heap.size = b5 at *
    have hne : ¬ b = b5 := by omega
    have hne' : ¬ b5 = b := by omega
    clear hF2 hF5
    have hx1 := hB3.cell 0
    have hx2 := hB3.cell 1
    simp only [List.getElem?_toArray, List.getElem?_cons_zero, List.getElem?_cons_succ] at hx1 hx2
    have hx3 := hB5.cell 0
    have hx4 := hB5.cell 1
    simp only [List.getElem?_toArray, List.getElem?_cons_zero, List.getElem?_cons_succ] at hx3 hx4
    have hz1 := hB3.frozen 0
    have hz2 := hB3.frozen 1
    have hbl := hB3.lt
    have hbl5 := hB5.lt
    have HB3 := Lib.hid hB3
    have HB5 := Lib.hid hB5
    have HF13 := Lib.hid hF13
    have HBZ := Lib.hid hbz
    clear hB3 hB5 hF13 hbz
    cases ok with
    | true =>
      have ho := entV_some hq
      have HO := Lib.hid ho
      clear ho
      clear hq
      go_wp2_with (fail)
      refine (must_true _).mono ?_
      rintro e w4 ⟨rfl, hw4⟩
      rw [hw4]
      clear hw4
      go_wp2
      refine bodyPost_ret (results_agg aggf rfl rfl ((HB3.out.set_ 0 (.string ⟨f1.toArray⟩)).set_ 1 (.string ⟨f2.toArray⟩)) rfl) rfl ?_
      unfold EnR
      rw [HO.out]
      exact ⟨rfl, H.out.both ((HF13.out.setCell (p := ⟨b, 0, none⟩) (by have := HB.out; unfold New; simp only; omega) _).setCell (p := ⟨b, 1, none⟩) (by have := HB.out; unfold New; simp only; omega) _)⟩
    | false =>
      have ho := entV_none hq
      have HO := Lib.hid ho
      clear ho
      clear hq
      go_wp2_with (fail)
      refine (must_false _).mono ?_
      rintro e w4 ⟨rfl, hw4⟩
      rw [hw4]
      clear hw4
      unfold PW
      go_wp2
      refine ⟨rfl, ?_⟩
      unfold EnR
      rw [HO.out]
      exact ⟨rfl, H.out.both HF13.out⟩
  · obtain ⟨hn, he⟩ := he2 (by omega)
    rw [hn] at hh
    have hi61 : (61 : Int) < (i : Int) := by omega
    have hw1 : IntKind.u64.wrap ((i : Int) - 61) = ((i - 61 : Nat) : Int) := by
      rw [show ((i : Int) - 61) = ((i - 61 : Nat) : Int) from by omega]; exact IntWalk.u64_in _ (by omega)
    have hw2 : IntKind.u64.wrap (((i - 61 : Nat) : Int) - 1) = ((i - 62 : Nat) : Int) := by
      rw [show (((i - 61 : Nat) : Int) - 1) = ((i - 62 : Nat) : Int) from by omega]; exact IntWalk.u64_in _ (by omega)
    have hnw := fun w' (h' : TabS S' w' g T) => tnewest_any (i - 62) w' h' (by omega)
    generalize i - 62 = j at *
    rw [← he] at hnw
    generalize hq : entV (entryS T i) = q at *
    obtain ⟨⟨f1, f2⟩, ok⟩ := q
    have hh2 : ∀ w' : World, Calls Try.prog 102 #[.int .u64 i] w' fun e w'' => e = .returned (.tuple #[.agg #[.string ⟨#[]⟩, .string ⟨#[]⟩], .bool false]) ∧ Frm (New w') w' w'' := fun w' => hh w'
    simp only [fld, str] at hnw
    have HH2 := Lib.hid hh2
    have HNW := Lib.hid hnw
    clear hh2 hnw
    clear he he1 he2 hh hn
    generalize entryS T i = o at *
    go_enter Try.func97, Try.ntmps97
    go_upto_region 1 with (fail)
    generalize wr.alloc (Obj.cells #[.string ⟨#[]⟩, .string ⟨#[]⟩] 30) = w1 at *
    generalize hb : wr.heap.size = b at *
    have HB := Lib.hid hb
    clear hb
    go_wp2_with (fail)
    refine (HH2.out _).mono ?_
    rintro e w2 ⟨rfl, hF2⟩
    go_upto_region 2 with (fail)
    have hB5 := Blk.new w2 30 #[.string ⟨#[]⟩, .string ⟨#[]⟩]
    have hF5 := (Frm.refl (New w2) w2).alloc Up.new (Obj.cells #[.string ⟨#[]⟩, .string ⟨#[]⟩] 30)
    have hB3 := (HB1.out.fresh hF2).fresh hF5
    have hF13 := (HF1.out.then_new Up.new hF2).then_new Up.new hF5
    have hb2 := (HB1.out.fresh hF2).lt
    generalize w2.alloc (Obj.cells #[.string ⟨#[]⟩, .string ⟨#[]⟩] 30) = w3 at *
    generalize hbz : w2.heap.size = b5 at *
    have hM3 := H.out.fresh hF13
    obtain ⟨hy0, hy1, hy2, hy3, hy4, hy5, hy6, hy7, hy8⟩ := hM3.cells
    clear hF2 hF5
    have HB3 := Lib.hid hB3
    have HB5 := Lib.hid hB5
    have HF13 := Lib.hid hF13
    have HBZ := Lib.hid hbz
    have HM3 := Lib.hid hM3
    clear hB3 hB5 hF13 hbz hM3
    go_wp2_with (fail)
    refine (HNW.out _ HM3.out.tab).mono ?_
    rintro e w4 ⟨rfl, hF4⟩
    clear hy0 hy1 hy2 hy3 hy4 hy5 hy6 hy7 hy8
    have hne : ¬ b = b5 := by have := HBZ.out; omega
    have hne' : ¬ b5 = b := by omega
    have hB7 := HB3.out.fresh hF4
    have hB6 := HB5.out.fresh hF4
    have hM4 := HM3.out.fresh hF4
    have hx1 := hB7.cell 0
    have hx2 := hB7.cell 1
    simp only [List.getElem?_toArray, List.getElem?_cons_zero, List.getElem?_cons_succ] at hx1 hx2
    have hx3 := hB6.cell 0
    have hx4 := hB6.cell 1
    simp only [List.getElem?_toArray, List.getElem?_cons_zero, List.getElem?_cons_succ] at hx3 hx4
    have hz1 := hB7.frozen 0
    have hz2 := hB7.frozen 1
    have hz3 := hB6.frozen 0
    have hz4 := hB6.frozen 1
    have hbl := hB7.lt
    have hbl5 := hB6.lt
    have hsz : b ≤ b5 := by omega
    have hwz : wr.heap.size = b := HB.out
    have HB7 := Lib.hid hB7
    have HB6 := Lib.hid hB6
    have HM4 := Lib.hid hM4
    have HF4 := Lib.hid hF4
    have HWZ := Lib.hid hwz
    clear hB7 hB6 hM4 hF4 hwz
    clear HB3 HB5 HM3
    have hFt : Frm (New wr) wr w4 := HF13.out.then_new Up.new HF4.out
    have hG : ∀ v1 v2 : Value, Frm (New wr) w4 ((w4.setCell ⟨b5, 0, none⟩ v1).setCell ⟨b5, 1, none⟩ v2) := fun v1 v2 => ((Frm.refl (New wr) w4).setCell (p := ⟨b5, 0, none⟩) (by have := HWZ.out; unfold New; simp only; omega) v1).setCell (p := ⟨b5, 1, none⟩) (by have := HWZ.out; unfold New; simp only; omega) v2
    cases ok with
    | true =>
      have ho := entV_some hq
      have HO := Lib.hid ho
      have HG := Lib.hid hG
      have HFT := Lib.hid hFt
      clear ho hG hFt
      clear hq
      go_wp2_with (fail)
      refine (must_true _).mono ?_
      rintro e w5 ⟨rfl, hw5⟩
      rw [hw5]
      clear hw5
      go_wp2
      refine bodyPost_ret (results_agg aggf rfl rfl ((((HB7.out.far (p := ⟨b5, 0, none⟩) hne (.string ⟨f1.toArray⟩)).far (p := ⟨b5, 1, none⟩) hne (.string ⟨f2.toArray⟩)).set_ 0 (.string ⟨f1.toArray⟩)).set_ 1 (.string ⟨f2.toArray⟩)) rfl) rfl ?_
      unfold EnR
      rw [HO.out]
      exact ⟨rfl, H.out.both ((((HFT.out.trans (HG.out _ _)).setCell (p := ⟨b, 0, none⟩) (by have := HB.out; unfold New; simp only; omega) _)).setCell (p := ⟨b, 1, none⟩) (by have := HB.out; unfold New; simp only; omega) _)⟩
    | false =>
      have ho := entV_none hq
      have HO := Lib.hid ho
      have HG := Lib.hid hG
      have HFT := Lib.hid hFt
      clear ho hG hFt
      clear hq
      go_wp2_with (fail)
      refine (must_false _).mono ?_
      rintro e w5 ⟨rfl, hw5⟩
      rw [hw5]
      clear hw5
      unfold PW
      go_wp2
      refine ⟨rfl, ?_⟩
      unfold EnR
      rw [HO.out]
      exact ⟨rfl, H.out.both (HFT.out.trans (HG.out _ _))⟩
end Go.Proofs.Ytcebckkpablagaa.M
namespace Go.Proofs.Ytcebckkpablagaa.M
open Go.ChangeShapes Go.WideShapes Go.ChangeAt Go.RowKit

def LitR (o : Option (Fld × Bytes)) (K : Bytes → World → Prop) (e : Ending) (w' : World) : Prop :=
  match o with
  | some (f, r2) => e = .returned (fld f) ∧ K r2 w'
  | none => e = PW ∧ ∃ r2, K r2 w'
theorem rdp_le' (b : Bytes) (k : Nat) (hk : 2 ^ k ≤ 256) : (rdp b k).1 ≤ 4611686018427387903 := by
  by_cases h : (rdp b k).2.2 = 0
  · exact (rdp_range b k hk h).2.2
  · cases b with
    | nil => simp [rdp]
    | cons c r =>
      unfold rdp at h ⊢
      simp only at h ⊢
      by_cases h1 : c.toNat % 2 ^ k < 2 ^ k - 1
      · rw [if_pos h1] at h; exact absurd rfl h
      · rw [if_neg h1] at h ⊢
        rcases rdMore_err r 10 1 (2 ^ k - 1) with h2 | h2 | h2
        · exact absurd h2 h
        · rw [h2]; exact Nat.zero_le _
        · rw [h2]; exact Nat.zero_le _

theorem run_field0 {o : Oper} {a : Act} {w : World} {x : Operand} {b1 b2 : Bytes} (ho : o.op = .field 30 x 0) (hx : a.eval x = .agg #[.string ⟨b1.toArray⟩, .string ⟨b2.toArray⟩]) : (execOp a.eval o).run Try.prog w = .ok (.value (.string ⟨b1.toArray⟩)) w := by
  unfold execOp
  rw [ho]
  simp only [hx]
  simp [Instr.field, run_underlying Try.underlying30, run_underlying Try.underlying9, part, isAgg, asAgg]
theorem keepbox {w w1 w2 : World} {pd pr bx t : Nat} {S' : Nat → Prop} {Ao : Option Addr} {cs : Array Value} (hc : HBox w pd pr S' Ao bx) (hb : Blk w1 bx t cs) (f : Frm (fun k => k = pr ∨ New w1 k) w1 w2) : Blk w2 bx t cs :=
  hb.keep f (fun c => by
    rcases c with c | c
    · exact hc.br c.symm
    · have := hb.lt; unfold New at c; omega)
theorem hFw_trans {w w1 w2 : World} {pr : Nat} (h : Frm (fun k => k = pr ∨ New w k) w w1) (f : Frm (fun k => k = pr ∨ New w1 k) w1 w2) : Frm (fun k => k = pr ∨ New w k) w w2 :=
  h.trans (f.mono (fun j hj => by
    have := h.size
    rcases hj with hj | hj
    · exact .inl hj
    · exact .inr (Nat.le_trans this hj)))

set_option maxRecDepth 100000 in
set_option maxHeartbeats 2000000 in
theorem literal_any {w wr : World} {S S' : Nat → Prop} {pd g pr up c co : Nat} {D : De} {T : Tb} {mu : Bool} {out : List Fld} {r : Bytes} {A Ao : Option Addr} (k : Nat) (h : HRM w S pd g D pr S' T mu up out r A c Ao co wr) (k0 : 1 ≤ k) (k1 : k ≤ 8) :
    Calls Try.prog 98 #[.pointer (some ⟨pr, 0, none⟩), .int .i64 k] wr (LitR (litD T k r) fun r2 w' => (∃ A2 c2, HRM w S pd g D pr S' T mu up out r2 A2 c2 Ao co w') ∧ Frm (fun k => k = pr ∨ New wr k) wr w') := by
  have h256 : 2 ^ k ≤ 256 := Nat.le_trans (Nat.pow_le_pow_right (by decide) k1) (by decide)
  have hile := rdp_le' r k h256
  have hL : litD T k r = match rdp r k with
    | (i, at_, e) => if e ≠ 0 then none else
      match nameD T i (r.drop at_) with
      | none => none
      | some (n, r) => match strD r 7 with
        | (s, at_, e) => if e = 0 then some ((n, s), r.drop at_) else none := rfl
  have hB1 := Blk.new wr 30 #[.string ⟨#[]⟩, .string ⟨#[]⟩]
  have hF1 : Frm (New wr) wr (wr.alloc (Obj.cells #[.string ⟨#[]⟩, .string ⟨#[]⟩] 30)) := (Frm.refl _ _).alloc Up.new _
  have hB2 := Blk.new (wr.alloc (Obj.cells #[.string ⟨#[]⟩, .string ⟨#[]⟩] 30)) 30 #[.string ⟨#[]⟩, .string ⟨#[]⟩]
  have hF2 := (Frm.refl (New (wr.alloc (Obj.cells #[.string ⟨#[]⟩, .string ⟨#[]⟩] 30))) (wr.alloc (Obj.cells #[.string ⟨#[]⟩, .string ⟨#[]⟩] 30))).alloc Up.new (Obj.cells #[.string ⟨#[]⟩, .string ⟨#[]⟩] 30)
  have hs1 : (wr.alloc (Obj.cells #[.string ⟨#[]⟩, .string ⟨#[]⟩] 30)).heap.size = wr.heap.size + 1 := by simp
  rw [hs1] at hB2
  have hB1' := hB1.fresh hF2
  have hF12 := hF1.then_new Up.new hF2
  have hM1 := h.fresh hF12
  have hC1 := h.boxc wr.heap.size (Nat.le_refl _)
  have hC2 := h.boxc (wr.heap.size + 1) (by omega)
  have hnum := fun w1 (hw : HRM w S pd g D pr S' T mu up out r A c Ao co w1) => number_any k hw k0 k1
  generalize rdp r k = q at *
  obtain ⟨i, at_, e⟩ := q
  simp only at hile hL hnum
  have hL2 : Hid (litD T k r = if e ≠ 0 then none else
      match nameD T i (r.drop at_) with
      | none => none
      | some (n, r) => match strD r 7 with
        | (s, at_, e) => if e = 0 then some ((n, s), r.drop at_) else none) := hL
  have HB2 := Lib.hid hB2
  have HB1 := Lib.hid hB1'
  have HF12 := Lib.hid hF12
  have HM1 := Lib.hid hM1
  have HC1 := Lib.hid hC1
  have HC2 := Lib.hid hC2
  have HNUM := Lib.hid hnum
  clear hB2 hB1' hF12 hM1 hC1 hC2 hnum
  clear hL hB1 hF1 hF2 hs1 h
  go_enter Try.func98, Try.ntmps98
  go_upto_region 2 with (fail)
  generalize (wr.alloc (Obj.cells #[.string ⟨#[]⟩, .string ⟨#[]⟩] 30)).alloc (Obj.cells #[.string ⟨#[]⟩, .string ⟨#[]⟩] 30) = w1 at *
  generalize hb : wr.heap.size = b at *
  have HB := Lib.hid hb
  clear hb
  go_wp2_with (fail)
  refine (HNUM.out w1 HM1.out).mono ?_
  by_cases he : e = 0
  · subst he
    have hL3 : Hid (litD T k r = match nameD T i (r.drop at_) with
      | none => none
      | some (n, r) => match strD r 7 with
        | (s, at_, e) => if e = 0 then some ((n, s), r.drop at_) else none) := by show _ = _; rw [hL2.out, if_neg (by simp)]
    simp only [↓reduceIte]
    rintro e' w2 ⟨rfl, ⟨A2, hM2⟩, hF2⟩
    have hbb := HB.out
    have hB2a : Blk w2 (b + 1) 30 #[.string ⟨#[]⟩, .string ⟨#[]⟩] := HB2.out.keep hF2 (fun c => by
      rcases c with c | c
      · exact HC2.out.br c.symm
      · have := HB2.out.lt; unfold New at c; omega)
    have hB1a : Blk w2 b 30 #[.string ⟨#[]⟩, .string ⟨#[]⟩] := HB1.out.keep hF2 (fun c => by
      rcases c with c | c
      · exact HC1.out.br c.symm
      · have := HB1.out.lt; unfold New at c; omega)
    have hFw : Frm (fun k => k = pr ∨ New wr k) wr w2 := (HF12.out.mono (fun _ hk => .inr hk)).trans (hF2.mono (fun j hj => by
      have := HF12.out.size
      rcases hj with hj | hj
      · exact .inl hj
      · exact .inr (Nat.le_trans this hj)))
    generalize hr2 : r.drop at_ = r2 at *
    generalize hcz : c - at_ = c2 at *
    have HB2A := Lib.hid hB2a
    have HB1A := Lib.hid hB1a
    have HFW := Lib.hid hFw
    have HM2 := Lib.hid hM2
    have HR2 := Lib.hid hr2
    have HCZ := Lib.hid hcz
    have HF2 := Lib.hid hF2
    clear hB2a hB1a hFw hM2 hr2 hcz hF2
    clear HNUM HB1 HB2 HF12 HM1 hbb hL2
    go_upto_if 11 with (fail)
    go_cut [] from 10 to 23 (fun w6 => ∃ (nm r3 : Bytes) (A3 : Option Addr) (c3 : Nat), Hid (nameD T i r2 = some (nm, r3)) ∧ Hid (HRM w S pd g D pr S' T mu up out r3 A3 c3 Ao co w6) ∧ Hid (Blk w6 (b + 1) 30 #[.string ⟨nm.toArray⟩, .string ⟨#[]⟩]) ∧ Hid (Blk w6 b 30 #[.string ⟨#[]⟩, .string ⟨#[]⟩]) ∧ Hid (Frm (fun k => k = pr ∨ New wr k) wr w6))
    case first =>
      by_cases hi0 : i = 0
      · subst hi0
        rw [show ((0 : Nat) : Int) = 0 from rfl]
        have hN : nameD T 0 r2 = match strD r2 7 with | (s, k, e) => if e = 0 then some (s, r2.drop k) else none := rfl
        have hst := rstr_any HM2.out
        generalize strD r2 7 = q at *
        obtain ⟨s, k5, e5⟩ := q
        simp only [str] at hN hst
        have HST := Lib.hid hst
        clear hst
        go_wp2_with (fail)
        refine HST.out.mono ?_
        by_cases he5 : e5 = 0
        · subst he5
          simp only [↓reduceIte]
          rintro e' w4 ⟨rfl, ⟨A3, hM4⟩, hF4⟩
          have hN2 : Hid (nameD T 0 r2 = some (s, r2.drop k5)) := by show _ = _; rw [hN]; rfl
          have hB4 := keepbox HC2.out HB2A.out hF4
          have hB5 := keepbox HC1.out HB1A.out hF4
          have hFz := hFw_trans HFW.out hF4
          have hx1 := hB4.cell 0
          simp only [List.getElem?_toArray, List.getElem?_cons_zero] at hx1
          have hz := hB4.frozen 0
          have hbl := hB4.lt
          have hFb : Frm (fun k => k = b + 1) w4 (w4.setCell ⟨b + 1, 0, none⟩ (.string ⟨s.toArray⟩)) := (Frm.refl (fun k => k = b + 1) w4).setCell (p := ⟨b + 1, 0, none⟩) rfl _
          have hM7 := hM4.box HC2.out hFb
          have hB7 : Blk (w4.setCell ⟨b + 1, 0, none⟩ (.string ⟨s.toArray⟩)) (b + 1) 30 #[.string ⟨s.toArray⟩, .string ⟨#[]⟩] := by have := hB4.set_ 0 (.string ⟨s.toArray⟩); simpa using this
          have hB8 := hB5.keep hFb (show ¬ b = b + 1 by omega)
          have hF7 : Frm (fun k => k = pr ∨ New wr k) wr (w4.setCell ⟨b + 1, 0, none⟩ (.string ⟨s.toArray⟩)) := hFz.setCell (p := ⟨b + 1, 0, none⟩) (.inr (by have := HB.out; unfold New; simp only; omega)) _
          have HM4 := Lib.hid hM4
          have HB4 := Lib.hid hB4
          have HB5 := Lib.hid hB5
          have HFZ := Lib.hid hFz
          have HFB := Lib.hid hFb
          have HM7 := Lib.hid hM7
          have HB7 := Lib.hid hB7
          have HB8 := Lib.hid hB8
          have HF7 := Lib.hid hF7
          clear hM4 hB4 hB5 hFz hFb hM7 hB7 hB8 hF7
          clear hF4 hN HST
          go_wp2
          go_meet
          exact ⟨s, r2.drop k5, A3, c2 - k5, hN2, HM7, HB7, HB8, HF7⟩
        · simp only [if_neg he5]
          rintro e' w4 ⟨rfl, hM4, hF4⟩
          have hFz := hFw_trans HFW.out hF4
          unfold PW
          go_wp2
          refine ⟨rfl, ?_⟩
          unfold LitR
          rw [hL3.out, hN, if_neg he5]
          exact ⟨rfl, r2, ⟨A2, c2, hM4⟩, hFz⟩
      · have hi1 : (0 : Int) < (i : Int) := by omega
        have hN : nameD T i r2 = (entryS T i).map fun g => (g.1, r2) := by unfold nameD; rw [if_neg hi0]
        have hen := hentry_any i HM2.out (by omega)
        unfold EnR at hen
        cases ho : entryS T i with
        | none =>
          rw [ho] at hen hN
          simp only at hen
          have HEN := Lib.hid hen
          clear hen
          go_wp2_with (fail)
          refine HEN.out.mono ?_
          rintro e' w4 ⟨rfl, hM4, hF4⟩
          have hFz := hFw_trans HFW.out (hF4.mono (M' := fun k => k = pr ∨ New w2 k) (fun _ hk => .inr hk))
          unfold PW
          go_wp2
          refine ⟨rfl, ?_⟩
          unfold LitR
          rw [hL3.out, hN]
          exact ⟨rfl, r2, ⟨A2, c2, hM4⟩, hFz⟩
        | some f =>
          obtain ⟨f1, f2⟩ := f
          rw [ho] at hen hN
          simp only [fld, str] at hen
          have hN2 : Hid (nameD T i r2 = some (f1, r2)) := by show _ = _; rw [hN]; rfl
          have HEN := Lib.hid hen
          clear hen
          clear hN ho
          go_wp2_with (fail)
          refine HEN.out.mono ?_
          rintro e' w4 ⟨rfl, hM4, hF4⟩
          have hF4' : Frm (fun k => k = pr ∨ New w2 k) w2 w4 := hF4.mono (fun _ hk => .inr hk)
          have hB4 := keepbox HC2.out HB2A.out hF4'
          have hB5 := keepbox HC1.out HB1A.out hF4'
          have hFz := hFw_trans HFW.out hF4'
          have hx1 := hB4.cell 0
          simp only [List.getElem?_toArray, List.getElem?_cons_zero] at hx1
          have hz := hB4.frozen 0
          have hbl := hB4.lt
          have hFb : Frm (fun k => k = b + 1) w4 (w4.setCell ⟨b + 1, 0, none⟩ (.string ⟨f1.toArray⟩)) := (Frm.refl (fun k => k = b + 1) w4).setCell (p := ⟨b + 1, 0, none⟩) rfl _
          have hM7 := hM4.box HC2.out hFb
          have hB7 : Blk (w4.setCell ⟨b + 1, 0, none⟩ (.string ⟨f1.toArray⟩)) (b + 1) 30 #[.string ⟨f1.toArray⟩, .string ⟨#[]⟩] := by have := hB4.set_ 0 (.string ⟨f1.toArray⟩); simpa using this
          have hB8 := hB5.keep hFb (show ¬ b = b + 1 by omega)
          have hF7 : Frm (fun k => k = pr ∨ New wr k) wr (w4.setCell ⟨b + 1, 0, none⟩ (.string ⟨f1.toArray⟩)) := hFz.setCell (p := ⟨b + 1, 0, none⟩) (.inr (by have := HB.out; unfold New; simp only; omega)) _
          have HM4 := Lib.hid hM4
          have HB4 := Lib.hid hB4
          have HB5 := Lib.hid hB5
          have HFZ := Lib.hid hFz
          have HFB := Lib.hid hFb
          have HM7 := Lib.hid hM7
          have HB7 := Lib.hid hB7
          have HB8 := Lib.hid hB8
          have HF7 := Lib.hid hF7
          clear hM4 hB4 hB5 hFz hFb hM7 hB7 hB8 hF7
          clear hF4 hF4' HEN
          go_wp2_with (refine wpList_val rfl (.string ⟨f1.toArray⟩) (run_field0 rfl rfl) ?_)
          go_meet
          exact ⟨f1, r2, A2, c2, hN2, HM7, HB7, HB8, HF7⟩
    case rest =>
      obtain ⟨nm, r3, A3, c3, hN, hM6, hB6, hB7, hF6⟩ := hcut
      rename World => w6
      have hL4 : Hid (litD T k r = match strD r3 7 with | (s, at_, e) => if e = 0 then some ((nm, s), r3.drop at_) else none) := by show _ = _; rw [hL3.out, hN.out]
      have hst := rstr_any hM6.out
      generalize strD r3 7 = q at *
      obtain ⟨s, k5, e5⟩ := q
      simp only [str] at hst
      have hL5 : Hid (litD T k r = if e5 = 0 then some ((nm, s), r3.drop k5) else none) := hL4.out
      have HST := Lib.hid hst
      clear hst
      clear hL3 hL4 hN
      go_wp2_with (fail)
      refine HST.out.mono ?_
      by_cases he5 : e5 = 0
      · subst he5
        simp only [↓reduceIte]
        rintro e' w7 ⟨rfl, ⟨A4, hM8⟩, hF8⟩
        have hL6 : Hid (litD T k r = some ((nm, s), r3.drop k5)) := hL5.out
        have hB9 := keepbox HC2.out hB6.out hF8
        have hB10 := keepbox HC1.out hB7.out hF8
        have hFz := hFw_trans hF6.out hF8
        have hx1 := hB9.cell 0
        have hx2 := hB9.cell 1
        simp only [List.getElem?_toArray, List.getElem?_cons_zero, List.getElem?_cons_succ] at hx1 hx2
        have hx3 := hB10.cell 0
        have hx4 := hB10.cell 1
        simp only [List.getElem?_toArray, List.getElem?_cons_zero, List.getElem?_cons_succ] at hx3 hx4
        have hz := hB9.frozen 1
        have hz3 := hB10.frozen 0
        have hz4 := hB10.frozen 1
        have hbl := hB9.lt
        have hbl2 := hB10.lt
        have hn1 : ¬ b = b + 1 := by omega
        have hn2 : ¬ b + 1 = b := by omega
        have hFa : Frm (fun k => k = b + 1) w7 (w7.setCell ⟨b + 1, 1, none⟩ (.string ⟨s.toArray⟩)) := (Frm.refl (fun k => k = b + 1) w7).setCell (p := ⟨b + 1, 1, none⟩) rfl _
        have hFc : Frm (fun k => k = b) (w7.setCell ⟨b + 1, 1, none⟩ (.string ⟨s.toArray⟩)) (((w7.setCell ⟨b + 1, 1, none⟩ (.string ⟨s.toArray⟩)).setCell ⟨b, 0, none⟩ (.string ⟨nm.toArray⟩)).setCell ⟨b, 1, none⟩ (.string ⟨s.toArray⟩)) :=
          ((Frm.refl (fun k => k = b) _).setCell (p := ⟨b, 0, none⟩) rfl _).setCell (p := ⟨b, 1, none⟩) rfl _
        have hMf := (hM8.box HC2.out hFa).box HC1.out hFc
        have hBf := ((hB10.keep hFa hn1).set_ 0 (.string ⟨nm.toArray⟩)).set_ 1 (.string ⟨s.toArray⟩)
        have hFf := (hFz.trans (hFa.mono (M' := fun k => k = pr ∨ New wr k) (fun j hj => .inr (by have := HB.out; unfold New; omega)))).trans (hFc.mono (M' := fun k => k = pr ∨ New wr k) (fun j hj => .inr (by have := HB.out; unfold New; omega)))
        have HMF := Lib.hid hMf
        have HBF := Lib.hid hBf
        have HFF := Lib.hid hFf
        have HB9 := Lib.hid hB9
        have HB10 := Lib.hid hB10
        have HFZ := Lib.hid hFz
        have HFA := Lib.hid hFa
        have HFC := Lib.hid hFc
        have HM8 := Lib.hid hM8
        clear hMf hBf hFf hB9 hB10 hFz hFa hFc hM8
        clear hF8 HST
        go_wp2
        refine bodyPost_ret (results_agg aggf rfl rfl HBF.out rfl) rfl ?_
        unfold LitR
        rw [hL6.out]
        exact ⟨rfl, ⟨A4, _, HMF.out⟩, HFF.out⟩
      · simp only [if_neg he5]
        rintro e' w7 ⟨rfl, hM8, hF8⟩
        have hFz := hFw_trans hF6.out hF8
        unfold PW
        go_wp2
        refine ⟨rfl, ?_⟩
        unfold LitR
        rw [hL5.out, if_neg he5]
        exact ⟨rfl, r3, ⟨A3, c3, hM8⟩, hFz⟩
  · have hL3 : Hid (litD T k r = none) := by show _ = _; rw [hL2.out, if_pos he]
    simp only [if_neg he]
    rintro e' w2 ⟨rfl, hM2, hF2⟩
    unfold PW
    go_wp2
    refine ⟨rfl, ?_⟩
    unfold LitR
    rw [hL3.out]
    refine ⟨rfl, r, ⟨A, c, hM2⟩, (HF12.out.mono (fun _ hk => .inr hk)).trans (hF2.mono (fun j hj => ?_))⟩
    have := HF12.out.size
    rcases hj with hj | hj
    · exact .inl hj
    · exact .inr (Nat.le_trans this hj)
end Go.Proofs.Ytcebckkpablagaa.M
