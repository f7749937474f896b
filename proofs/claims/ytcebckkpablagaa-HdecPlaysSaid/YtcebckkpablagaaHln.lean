/- hdec's line. -/
import Derived.Deep.CutBlock
import Derived.Deep.RegionHeld3
import Derived.Test.YtcebckkpablagaaHup
import Derived.Test.YtcebckkpablagaaEncd
import Derived.Test.YtcebckkpablagaaReg
import Derived.Test.YtcebckkpablagaaRence
import Derived.Test.YtcebckkpablagaaRdec
namespace Go.Proofs.Ytcebckkpablagaa.M
open Go.ChangeShapes Go.WideShapes Go.ChangeAt Go.RowKit

theorem HRM.append {w wr w6 : World} {S S' : Nat → Prop} {pd g pr up c co : Nat} {D : De} {T : Tb} {mu : Bool} {out : List Fld} {r : Bytes} {A Ao : Option Addr} (h : HRM w S pd g D pr S' T mu up out r A c Ao co wr) {out2 : List Fld} {A2 : Option Addr} {c2 : Nat}
    (ha : App (Mb Ao wr) w6 30 2 A2 out2.length c2 (fvs out2)) (hne : out2 ≠ []) (f : Frm (Mb Ao wr) wr w6) :
    HRM w S pd g D pr S' T mu up out2 r A c A2 c2 (w6.setCell ⟨pr, 2, none⟩ (.slice A2 out2.length c2)) := by
  have hs := h.frm.size
  have h1 := h.rdr.lt
  have h2 := h.dec.lt
  have hpw := h.pw
  have hprw := h.prw
  have hM : ∀ k, Mb Ao wr k → New w k := fun k hk => by
    rcases hk with hk | hk
    · exact h.app.inM k hk
    · exact Nat.le_trans hs hk
  have hprM : ¬ Mb Ao wr pr := fun c => by
    rcases c with c | c
    · exact (h.ofar pr c).2.1 rfl
    · omega
  have hpdM : ¬ Mb Ao wr pd := fun c => by have := hM pd c; unfold New at this; omega
  have hS : ∀ k, S' k → ¬ Mb Ao wr k := fun k hk c => by
    rcases c with c | c
    · exact (h.ofar k c).1 hk
    · have := h.tab.low k hk; omega
  have hF : Frm (fun k => k = pr) w6 (w6.setCell ⟨pr, 2, none⟩ (.slice A2 out2.length c2)) := (Frm.refl (fun k => k = pr) w6).setCell (p := ⟨pr, 2, none⟩) rfl _
  have hb := (h.rdr.keep f hprM).set_ 2 (.slice A2 out2.length c2)
  have hpp : pd ≠ pr := by omega
  obtain ⟨g9, o9, e9, l9⟩ := ha.rd.lt (by intro c; have := congrArg List.length c; rw [fvs_length] at this; simp at this; exact hne (List.eq_nil_of_length_eq_zero (by omega)))
  have hz : (w6.setCell ⟨pr, 2, none⟩ (.slice A2 out2.length c2)).heap.size = w6.heap.size := by simp
  have hA2 : ∀ k, blk A2 = some k → k ≠ pr ∧ ¬ S' k ∧ k < w6.heap.size := fun k hk => by
    have hk2 : g9 = k := by rw [e9] at hk; simpa using hk
    have hin := ha.inM k hk
    exact ⟨fun e => hprM (by rw [← e]; exact hin), fun c => hS k c hin, by omega⟩
  exact
    { h with
      rdr := by simpa using hb
      dec := (h.dec.keep f hpdM).keep hF hpp
      tab := (h.tab.keep f hS).keep hF (fun k hk e => h.outS.1 (by rw [← e]; exact hk))
      rd := (h.rd.keep f (fun k hk e => by have h3 := hM k e; have h4 := (h.far k hk).2.2; unfold New at h3; omega)).keep hF (fun k hk e => by have h4 := (h.far k hk).2.2; omega)
      app := (ha.mono hM).keep hF (fun k hk e => (hA2 k hk).1 e)
      ofar := fun k hk => ⟨(hA2 k hk).2.1, (hA2 k hk).1, by rw [hz]; exact (hA2 k hk).2.2⟩
      frm := (h.frm.trans (f.mono (fun k hk => .inr (.inr (hM k hk))))).trans (hF.mono (fun k hk => .inr (.inr (by rw [hk]; exact hprw)))) }

theorem nameD_small {T : Tb} {i : Nat} {b : Bytes} {x : Bytes × Bytes} (ho : T.Ok) (hc : T.cap ≤ 4096) (h : nameD T i b = some x) : x.1.length ≤ 4096 := by
  unfold nameD at h
  split at h
  · have h2 := strD_le b 7
    generalize strD b 7 = q at *
    obtain ⟨s, k, e⟩ := q
    simp only at h h2
    split at h
    · injection h with h; subst h; exact h2
    · cases h
  · cases hf : entryS T i with
    | none => rw [hf] at h; cases h
    | some f =>
      rw [hf] at h
      have h3 := entry_small ho hc hf
      unfold fsize at h3
      injection h with h; subst h
      simp only; omega
theorem litD_small {T : Tb} {k : Nat} {b : Bytes} {x : Fld × Bytes} (ho : T.Ok) (hc : T.cap ≤ 4096) (h : litD T k b = some x) : fsize x.1 ≤ 12288 := by
  unfold litD at h
  generalize rdp b k = q at h
  obtain ⟨i, a, e⟩ := q
  simp only at h
  split at h
  · cases h
  · cases hn : nameD T i (b.drop a) with
    | none => rw [hn] at h; cases h
    | some q =>
      obtain ⟨n, r3⟩ := q
      rw [hn] at h
      have h1 := nameD_small ho hc hn
      have h2 := strD_le r3 7
      simp only at h h1
      generalize strD r3 7 = q at *
      obtain ⟨s, a2, e2⟩ := q
      simp only at h h2
      split at h
      · injection h with h; subst h; unfold fsize; simp only; omega
      · cases h

/-- a block's line is read -/
def LineK (w : World) (S : Nat → Prop) (pd g : Nat) (D : De) (pr : Nat) (T : Tb) (mu : Bool) (up : Nat) (out : List Fld) (r : Bytes) (w' : World) : Prop :=
  ∃ f add r2 S2 A2 c2 A3 co2, lineD T r = some (f, add, r2) ∧ HRM w S pd g D pr S2 (if add then T.add f else T) mu up (out ++ [f]) r2 A2 c2 A3 co2 w'

theorem HBox.bown {w W : World} {pd pr b : Nat} {S' : Nat → Prop} {Ao : Option Addr} (h : HBox w pd pr S' Ao b) (hl : b < W.heap.size) : ¬ Own S' W b := fun c => by
  rcases c with c | c
  · exact h.bS c
  · omega
theorem HBox.tabs {w W : World} {pd pr b : Nat} {S' S2 : Nat → Prop} {Ao : Option Addr} (h : HBox w pd pr S' Ao b) (hS : ∀ k, S2 k → Own S' W k) (hl : b < W.heap.size) : HBox w pd pr S2 Ao b :=
  ⟨h.bp, h.br, fun c => h.bown hl (hS b c), h.bo, h.bw⟩

theorem line_add {w wz W w5 : World} {S S' S5 : Nat → Prop} {pd g pr up c co b t : Nat} {D : De} {T : Tb} {mu : Bool} {out : List Fld} {r : Bytes} {A Ao : Option Addr} {cs : Array Value} {f : Fld} (h : HRM w S pd g D pr S' T mu up out r A c Ao co wz) (hb : Blk wz b t cs) (hc : HBox w pd pr S' Ao b)
    (hT : TabS S5 w5 g (T.add f)) (hF : Frm (Own S' W) W w5) (hS : ∀ k, S5 k → Own S' W k) (hW : Frm (New wz) wz W) : HRM w S pd g D pr S5 (T.add f) mu up out r A c Ao co w5 ∧ Blk w5 b t cs ∧ HBox w pd pr S5 Ao b := by
  have h1 := h.fresh hW
  have h2 := hb.fresh hW
  exact ⟨h1.tabs hT (by rw [Tb.add_cap]; exact h.cap) (h.ok.add _) hF hS, h2.keep hF (hc.bown h2.lt), hc.tabs hS h2.lt⟩

set_option maxRecDepth 100000 in
set_option maxHeartbeats 4000000 in
theorem line_any {w wr : World} {S S' : Nat → Prop} {pd g pr up c co : Nat} {D : De} {T : Tb} {mu : Bool} {out : List Fld} {r : Bytes} {A Ao : Option Addr} (h : HRM w S pd g D pr S' T mu up out r A c Ao co wr) (x : UInt8) (t : Bytes) (hr : r = x :: t) (hol : out.length ≤ 64) (hn : T.n < 1152921504606846976) :
    Calls Try.prog 86 #[.pointer (some ⟨pr, 0, none⟩)] wr (UpR ((lineD T r).isSome = true ∧ out.length < 64) (LineK w S pd g D pr T mu up out r) (HSome w S pd g D pr)) := by
  have hB1 := Blk.new wr 30 #[.string ⟨#[]⟩, .string ⟨#[]⟩]
  have hF1 : Frm (New wr) wr (wr.alloc (Obj.cells #[.string ⟨#[]⟩, .string ⟨#[]⟩] 30)) := (Frm.refl _ _).alloc Up.new _
  have hM1 := h.fresh hF1
  have hC1 := h.boxc wr.heap.size (Nat.le_refl _)
  have hxb : x.toNat < 256 := x.toNat_lt
  have hhd : Hid ((r.headD 0) = x) := by show _ = _; rw [hr]; rfl
  have hlr : 0 < r.length := by rw [hr]; simp
  obtain ⟨gb, off, rfl, hx0⟩ := hM1.rd.at_ (k := 0) (by rw [bvs_length]; exact hlr)
  have hx : (wr.alloc (Obj.cells #[.string ⟨#[]⟩, .string ⟨#[]⟩] 30)).cell? ⟨gb, off, none⟩ = some (.int .u8 (x.toNat : Int)) := by
    subst hr
    simpa [bvs, bv] using hx0
  clear hx0
  have H := Lib.hid h
  have HB1 := Lib.hid hB1
  have HF1 := Lib.hid hF1
  have HM1 := Lib.hid hM1
  have HC1 := Lib.hid hC1
  have HR := Lib.hid hr
  clear h hB1 hF1 hM1 hC1 hr
  go_enter Try.func86, Try.ntmps86
  go_upto_region 1 with (fail)
  generalize wr.alloc (Obj.cells #[.string ⟨#[]⟩, .string ⟨#[]⟩] 30) = w1 at *
  generalize hb : wr.heap.size = b at *
  obtain ⟨hy0, hy1, hy2, hy3, hy4, hy5, hy6, hy7, hy8⟩ := HM1.out.cells
  have hgb := World.block_lt_of_cell? _ _ hx
  have HB := Lib.hid hb
  clear hb
  go_upto_block 0 with (fail)
  go_cut [] from 10 to 36 (fun w6 => ∃ (f1 f2 r2 : Bytes) (add : Bool) (S2 : Nat → Prop) (A2 : Option Addr) (c2 : Nat), Hid (lineD T r = some ((f1, f2), add, r2)) ∧ Hid (HRM w S pd g D pr S2 (if add then T.add (f1, f2) else T) mu up out r2 A2 c2 Ao co w6) ∧ Hid (Blk w6 b 30 #[.string ⟨f1.toArray⟩, .string ⟨f2.toArray⟩]) ∧ Hid (HBox w pd pr S2 Ao b))
  case first =>
    by_cases h1 : 128 ≤ x.toNat
    · have hq1 : ((x.toNat : Int) / 128 == 1) = true := by rw [beq_iff_eq]; omega
      have hLD : lineD T r = match rdp r 7 with | (i, k, e) => if e ≠ 0 then none else (entryS T i).map fun f => (f, false, r.drop k) := by unfold lineD; rw [if_pos (by rw [hhd.out]; exact h1)]
      have hnum := number_any 7 HM1.out (by omega) (by omega)
      have hile := rdp_le' r 7 (by decide)
      generalize rdp r 7 = q at *
      obtain ⟨i, k, e⟩ := q
      simp only at hnum hile hLD
      have HLD := Lib.hid hLD
      clear hLD
      go_wp2_with (fail)
      refine hnum.mono ?_
      by_cases he : e = 0
      · subst he
        simp only [↓reduceIte]
        rintro e' w2 ⟨rfl, ⟨A2, hM2⟩, hF2⟩
        have hen := hentry_any i hM2 (by omega)
        have hLD2 : Hid (lineD T r = (entryS T i).map fun f => (f, false, r.drop k)) := by show _ = _; rw [HLD.out, if_neg (by simp)]
        unfold EnR at hen
        clear hnum
        cases ho : entryS T i with
        | none =>
          rw [ho] at hen
          simp only at hen
          have HEN := Lib.hid hen
          clear hen
          go_wp2_with (fail)
          refine HEN.out.mono ?_
          rintro e' w4 ⟨rfl, hM4, hF4⟩
          unfold PW
          go_wp2
          refine ⟨rfl, ?_⟩
          unfold UpR
          rw [hLD2.out, ho]
          exact ⟨fun hc => absurd hc.1 (by simp), fun _ => ⟨rfl, S', T, mu, up, out, r.drop k, A2, c - k, Ao, co, hM4⟩⟩
        | some f =>
          obtain ⟨f1, f2⟩ := f
          rw [ho] at hen
          simp only [fld, str] at hen
          have hLD3 : Hid (lineD T r = some ((f1, f2), false, r.drop k)) := by show _ = _; rw [hLD2.out, ho]; rfl
          have HEN := Lib.hid hen
          clear hen
          clear ho hLD2
          go_wp2_with (fail)
          refine HEN.out.mono ?_
          rintro e' w4 ⟨rfl, hM4, hF4⟩
          have hB4 := keepbox HC1.out (keepbox HC1.out HB1.out hF2) (hF4.mono (M' := fun k => k = pr ∨ New w2 k) (fun _ hk => .inr hk))
          have hx1 := hB4.cell 0
          have hx2 := hB4.cell 1
          simp only [List.getElem?_toArray, List.getElem?_cons_zero, List.getElem?_cons_succ] at hx1 hx2
          have hz1 := hB4.frozen 0
          have hz2 := hB4.frozen 1
          have hbl := hB4.lt
          have hFb : Frm (fun k => k = b) w4 ((w4.setCell ⟨b, 0, none⟩ (.string ⟨f1.toArray⟩)).setCell ⟨b, 1, none⟩ (.string ⟨f2.toArray⟩)) := ((Frm.refl (fun k => k = b) w4).setCell (p := ⟨b, 0, none⟩) rfl _).setCell (p := ⟨b, 1, none⟩) rfl _
          have HMZ := Lib.hid (hM4.box HC1.out hFb)
          have HBZ : Hid (Blk ((w4.setCell ⟨b, 0, none⟩ (.string ⟨f1.toArray⟩)).setCell ⟨b, 1, none⟩ (.string ⟨f2.toArray⟩)) b 30 #[.string ⟨f1.toArray⟩, .string ⟨f2.toArray⟩]) := by
            show Blk _ _ _ _
            have := (hB4.set_ 0 (.string ⟨f1.toArray⟩)).set_ 1 (.string ⟨f2.toArray⟩)
            simpa using this
          have HB4 := Lib.hid hB4
          have HM4 := Lib.hid hM4
          have HM2 := Lib.hid hM2
          have HFB := Lib.hid hFb
          clear hB4 hM4 hM2 hFb
          clear hF4 hF2 HEN hx hgb
          go_wp2
          go_meet
          exact ⟨f1, f2, r.drop k, false, S', A2, c - k, hLD3, HMZ, HBZ, HC1⟩
      · simp only [if_neg he]
        rintro e' w2 ⟨rfl, hM2, hF2⟩
        unfold PW
        go_wp2
        refine ⟨rfl, ?_⟩
        unfold UpR
        rw [HLD.out, if_pos he]
        exact ⟨fun hc => absurd hc.1 (by simp), fun _ => ⟨rfl, S', T, mu, up, out, r, _, c, Ao, co, hM2⟩⟩
    · have hq1 : ((x.toNat : Int) / 128 == 1) = false := by rw [beq_eq_false_iff_ne]; omega
      by_cases h2 : 64 ≤ x.toNat
      · have hq2 : ((x.toNat : Int) / 64 == 1) = true := by rw [beq_iff_eq]; omega
        have hLD : lineD T r = (litD T 6 r).map fun (f, r) => (f, true, r) := by unfold lineD; rw [if_neg (by rw [hhd.out]; exact h1), if_pos (by rw [hhd.out]; exact h2)]
        have hlit := literal_any 6 HM1.out (by omega) (by omega)
        unfold LitR at hlit
        have HLD := Lib.hid hLD
        clear hLD
        cases ho : litD T 6 r with
        | none =>
          rw [ho] at hlit
          simp only at hlit
          have HLIT := Lib.hid hlit
          clear hlit
          go_wp2_with (fail)
          refine HLIT.out.mono ?_
          rintro e' w4 ⟨rfl, r2, ⟨A2, c2, hM4⟩, hF4⟩
          unfold PW
          go_wp2
          refine ⟨rfl, ?_⟩
          unfold UpR
          rw [HLD.out, ho]
          exact ⟨fun hc => absurd hc.1 (by simp), fun _ => ⟨rfl, S', T, mu, up, out, r2, A2, c2, Ao, co, hM4⟩⟩
        | some q =>
          obtain ⟨⟨f1, f2⟩, r2⟩ := q
          rw [ho] at hlit
          simp only [fld, str] at hlit
          have hLD3 : Hid (lineD T r = some ((f1, f2), true, r2)) := by show _ = _; rw [HLD.out, ho]; rfl
          have hsm := litD_small HM1.out.ok HM1.out.cap ho
          simp only at hsm
          have HLIT := Lib.hid hlit
          have HSM := Lib.hid hsm
          clear hlit hsm
          clear ho
          go_wp2_with (fail)
          refine HLIT.out.mono ?_
          rintro e' w4 ⟨rfl, ⟨A2, c2, hM4⟩, hF4⟩
          have hB4 := keepbox HC1.out HB1.out hF4
          have hx1 := hB4.cell 0
          have hx2 := hB4.cell 1
          simp only [List.getElem?_toArray, List.getElem?_cons_zero, List.getElem?_cons_succ] at hx1 hx2
          have hz1 := hB4.frozen 0
          have hz2 := hB4.frozen 1
          have hbl := hB4.lt
          have hFb : Frm (fun k => k = b) w4 ((w4.setCell ⟨b, 0, none⟩ (.string ⟨f1.toArray⟩)).setCell ⟨b, 1, none⟩ (.string ⟨f2.toArray⟩)) := ((Frm.refl (fun k => k = b) w4).setCell (p := ⟨b, 0, none⟩) rfl _).setCell (p := ⟨b, 1, none⟩) rfl _
          have HMZ := Lib.hid (hM4.box HC1.out hFb)
          have HBZ : Hid (Blk ((w4.setCell ⟨b, 0, none⟩ (.string ⟨f1.toArray⟩)).setCell ⟨b, 1, none⟩ (.string ⟨f2.toArray⟩)) b 30 #[.string ⟨f1.toArray⟩, .string ⟨f2.toArray⟩]) := by
            show Blk _ _ _ _
            have := (hB4.set_ 0 (.string ⟨f1.toArray⟩)).set_ 1 (.string ⟨f2.toArray⟩)
            simpa using this
          have HB4 := Lib.hid hB4
          have HM4 := Lib.hid hM4
          have HFB := Lib.hid hFb
          clear hB4 hM4 hFb
          clear hF4 HLIT hx hgb
          go_upto_region 7 with (fail)
          generalize (w4.setCell ⟨b, 0, none⟩ (.string ⟨f1.toArray⟩)).setCell ⟨b, 1, none⟩ (.string ⟨f2.toArray⟩) = wz at *
          clear hx1 hx2 hz1 hz2 hbl hy0 hy1 hy2 hy3 hy4 hy5 hy6 hy7 hy8
          obtain ⟨hy0, hy1, hy2, hy3, hy4, hy5, hy6, hy7, hy8⟩ := HMZ.out.cells
          have hbz := HBZ.out
          have hx1 := hbz.cell 0
          have hx2 := hbz.cell 1
          simp only [List.getElem?_toArray, List.getElem?_cons_zero, List.getElem?_cons_succ] at hx1 hx2
          have hbl := hbz.lt
          have HBZ2 := Lib.hid hbz
          clear hbz
          go_region_held3 (fun w' => w'.cell? ⟨pr, 0, none⟩ = some (.pointer (some ⟨pd, 0, none⟩)) ∧ w'.cell? ⟨pd, 0, none⟩ = some (.pointer (some ⟨g, 0, none⟩)) ∧ w'.cell? ⟨b, 0, none⟩ = some (.string ⟨f1.toArray⟩) ∧ w'.cell? ⟨b, 1, none⟩ = some (.string ⟨f2.toArray⟩))
            (first
              | exact HS11.out
              | exact ⟨hy0, hy4, hx1, hx2⟩
              | go_keep)
            (first
              | (go_at_call 79
                 refine (addS_any (f1, f2) _ 1 _ (HMZ.out.tab.fresh (by first | exact ((Frm.refl _ _).alloc Up.new _).drew | exact (Frm.refl _ _).drew.alloc Up.new _)) (by first | exact Rd.new _ #[.string ⟨f1.toArray⟩, .string ⟨f2.toArray⟩] _ | exact (Rd.new _ #[.string ⟨f1.toArray⟩, .string ⟨f2.toArray⟩] _).drew) (fun k hk c => by cases hk; have := HMZ.out.tab.low _ c; simp at this) hn (Nat.le_trans HSM.out (by decide)) (Nat.le_trans HMZ.out.cap (by decide))).mono ?_
                 rintro e w5 ⟨⟨m, rfl⟩, S5, hT5, hF5, hS5⟩
                 obtain ⟨hm5, hb5, hc5⟩ := line_add HMZ.out HBZ.out HC1.out hT5 hF5 hS5 (by first | exact ((Frm.refl _ _).alloc Up.new _).drew | exact (Frm.refl _ _).drew.alloc Up.new _)
                 have HM5 := Lib.hid hm5
                 have HB5 := Lib.hid hb5
                 have HC5 := Lib.hid hc5
                 have HS11 : Hid (w5.cell? ⟨pr, 0, none⟩ = some (.pointer (some ⟨pd, 0, none⟩)) ∧ w5.cell? ⟨pd, 0, none⟩ = some (.pointer (some ⟨g, 0, none⟩)) ∧ w5.cell? ⟨b, 0, none⟩ = some (.string ⟨f1.toArray⟩) ∧ w5.cell? ⟨b, 1, none⟩ = some (.string ⟨f2.toArray⟩)) := ⟨HM5.out.cells.1, HM5.out.cells.2.2.2.2.1, HB5.out.cell 0, HB5.out.cell 1⟩
                 clear hT5 hF5 hS5 hm5 hb5 hc5)
              | fail)
          go_wp2
          go_meet
          exact ⟨f1, f2, r2, true, S5, A2, c2, hLD3, HM5, HB5, HC5⟩
      · have hq2 : ((x.toNat : Int) / 64 == 1) = false := by rw [beq_eq_false_iff_ne]; omega
        have hLD : lineD T r = (litD T 4 r).map fun (f, r) => (f, false, r) := by unfold lineD; rw [if_neg (by rw [hhd.out]; exact h1), if_neg (by rw [hhd.out]; exact h2)]
        have hlit := literal_any 4 HM1.out (by omega) (by omega)
        unfold LitR at hlit
        have HLD := Lib.hid hLD
        clear hLD
        cases ho : litD T 4 r with
        | none =>
          rw [ho] at hlit
          simp only at hlit
          have HLIT := Lib.hid hlit
          clear hlit
          go_wp2_with (fail)
          refine HLIT.out.mono ?_
          rintro e' w4 ⟨rfl, r2, ⟨A2, c2, hM4⟩, hF4⟩
          unfold PW
          go_wp2
          refine ⟨rfl, ?_⟩
          unfold UpR
          rw [HLD.out, ho]
          exact ⟨fun hc => absurd hc.1 (by simp), fun _ => ⟨rfl, S', T, mu, up, out, r2, A2, c2, Ao, co, hM4⟩⟩
        | some q =>
          obtain ⟨⟨f1, f2⟩, r2⟩ := q
          rw [ho] at hlit
          simp only [fld, str] at hlit
          have hLD3 : Hid (lineD T r = some ((f1, f2), false, r2)) := by show _ = _; rw [HLD.out, ho]; rfl
          have HLIT := Lib.hid hlit
          clear hlit
          clear ho
          go_wp2_with (fail)
          refine HLIT.out.mono ?_
          rintro e' w4 ⟨rfl, ⟨A2, c2, hM4⟩, hF4⟩
          have hB4 := keepbox HC1.out HB1.out hF4
          have hx1 := hB4.cell 0
          have hx2 := hB4.cell 1
          simp only [List.getElem?_toArray, List.getElem?_cons_zero, List.getElem?_cons_succ] at hx1 hx2
          have hz1 := hB4.frozen 0
          have hz2 := hB4.frozen 1
          have hbl := hB4.lt
          have hFb : Frm (fun k => k = b) w4 ((w4.setCell ⟨b, 0, none⟩ (.string ⟨f1.toArray⟩)).setCell ⟨b, 1, none⟩ (.string ⟨f2.toArray⟩)) := ((Frm.refl (fun k => k = b) w4).setCell (p := ⟨b, 0, none⟩) rfl _).setCell (p := ⟨b, 1, none⟩) rfl _
          have HMZ := Lib.hid (hM4.box HC1.out hFb)
          have HBZ : Hid (Blk ((w4.setCell ⟨b, 0, none⟩ (.string ⟨f1.toArray⟩)).setCell ⟨b, 1, none⟩ (.string ⟨f2.toArray⟩)) b 30 #[.string ⟨f1.toArray⟩, .string ⟨f2.toArray⟩]) := by
            show Blk _ _ _ _
            have := (hB4.set_ 0 (.string ⟨f1.toArray⟩)).set_ 1 (.string ⟨f2.toArray⟩)
            simpa using this
          have HB4 := Lib.hid hB4
          have HM4 := Lib.hid hM4
          have HFB := Lib.hid hFb
          clear hB4 hM4 hFb
          clear hF4 HLIT hx hgb
          go_wp2
          go_meet
          exact ⟨f1, f2, r2, false, S', A2, c2, hLD3, HMZ, HBZ, HC1⟩
  case rest =>
    obtain ⟨f1, f2, r2, add, S2, A2, c2, HL, HMZ, HBZ, HCZ⟩ := hcut
    rename World => wz
    generalize hT2 : (if add then T.add (f1, f2) else T) = T2 at *
    have HT2 := Lib.hid hT2
    clear hT2
    clear hx hgb
    obtain ⟨hy0, hy1, hy2, hy3, hy4, hy5, hy6, hy7, hy8⟩ := HMZ.out.cells
    have hbz := HBZ.out
    have hx1 := hbz.cell 0
    have hx2 := hbz.cell 1
    simp only [List.getElem?_toArray, List.getElem?_cons_zero, List.getElem?_cons_succ] at hx1 hx2
    have hbl := hbz.lt
    have hz2 := HMZ.out.rdr.frozen 2
    have hAp : App (Mb Ao wz) wz 30 2 Ao out.length co (fvs out) := HMZ.out.app.in_ (fun _ hk => .inl hk)
    have hprM : ¬ Mb Ao wz pr := fun c => by
      rcases c with c | c
      · exact (HMZ.out.ofar pr c).2.1 rfl
      · omega
    have hbM : ¬ Mb Ao wz b := fun c => by
      rcases c with c | c
      · exact HCZ.out.bo b c rfl
      · omega
    have HBZ2 := Lib.hid hbz
    have HAP := Lib.hid hAp
    have HPRM := Lib.hid hprM
    have HBM := Lib.hid hbM
    clear hbz hAp hprM hbM
    have hS0 : wz.drew.cell? ⟨pr, 2, none⟩ = some (.slice Ao out.length co) ∧ wz.drew.cell? ⟨b, 0, none⟩ = some (.string ⟨f1.toArray⟩) ∧ wz.drew.cell? ⟨b, 1, none⟩ = some (.string ⟨f2.toArray⟩) := ⟨hy2, hx1, hx2⟩
    go_upto_region 8 with (fail)
    refine wp_region_til (by kernel_rfl) (fun w' => w'.cell? ⟨pr, 2, none⟩ = some (.slice Ao out.length co) ∧ w'.cell? ⟨b, 0, none⟩ = some (.string ⟨f1.toArray⟩) ∧ w'.cell? ⟨b, 1, none⟩ = some (.string ⟨f2.toArray⟩)) 10 ?_
    refine wpAnyT_take (i := 0) (v := ?_) (d := some 36) rfl (by rfl) (by kernel_rfl) (fun _ _ _ h => h) (by rfl) hS0 (fun w hSw => ?_) ?_
    rotate_left
    · (try dsimp only at hSw); go_simp; first | done | (with_reducible rfl)
    simp only [Act.put, List.setIfInBounds_toArray, List.set_cons_zero, List.set_cons_succ]
    refine wpAnyT_take (i := 1) (v := ?_) (d := some 37) rfl (by rfl) (by kernel_rfl) (fun _ _ _ h => h) (by rfl) hS0 (fun w hSw => ?_) ?_
    rotate_left
    · (try dsimp only at hSw); go_simp; first | done | (with_reducible rfl)
    simp only [Act.put, List.setIfInBounds_toArray, List.set_cons_zero, List.set_cons_succ]
    refine wpAnyT_take (i := 2) (v := ?_) (d := some 38) rfl (by rfl) (by kernel_rfl) (fun _ _ _ h => h) (by rfl) hS0 (fun w hSw => ?_) ?_
    rotate_left
    · (try dsimp only at hSw); go_simp; first | done | (with_reducible rfl)
    simp only [Act.put, List.setIfInBounds_toArray, List.set_cons_zero, List.set_cons_succ]
    refine wpAnyT_take (i := 3) (v := ?_) (d := some 39) rfl (by rfl) (by kernel_rfl) (fun _ _ _ h => h) (by rfl) hS0 (fun w hSw => ?_) ?_
    rotate_left
    · (try dsimp only at hSw); go_simp; first | done | (with_reducible rfl)
    simp only [Act.put, List.setIfInBounds_toArray, List.set_cons_zero, List.set_cons_succ]
    refine wpAnyT_take (i := 4) (v := ?_) (d := some 40) rfl (by rfl) (by kernel_rfl) (fun _ _ _ h => h) (by rfl) hS0 (fun w hSw => ?_) ?_
    rotate_left
    · (try dsimp only at hSw); go_simp; first | done | (with_reducible rfl)
    simp only [Act.put, List.setIfInBounds_toArray, List.set_cons_zero, List.set_cons_succ]
    refine wpAnyT_take (i := 5) (v := ?_) (d := some 41) rfl (by rfl) (by kernel_rfl) (fun _ _ _ h => h) (by rfl) hS0 (fun w hSw => ?_) ?_
    rotate_left
    · (try dsimp only at hSw); go_simp; first | done | (with_reducible rfl)
    simp only [Act.put, List.setIfInBounds_toArray, List.set_cons_zero, List.set_cons_succ]
    have hn0 := World.new_ne wz.drew _ hy2
    have hn1 := World.new_ne wz.drew _ hx1
    refine wpAnyT_one (i := 6) rfl (by kernel_rfl) (fun K hK => ?_)
    go_simp
    refine hK.out _ _ (.inr ((by go_keep))) ?_
    clear hK K
    refine wpAnyT_one (i := 7) rfl (by kernel_rfl) (fun K hK => ?_)
    (refine step_append2 (M := Mb Ao wz) (A := Ao) (n := out.length) (c := co) (xs := fvs out) (news := [.string ⟨f1.toArray⟩, .string ⟨f2.toArray⟩]) flds rfl rfl rfl ((HAP.out.drew).alloc _) (fun k hk => .inr (by simp at hk; omega)) rfl (Rd.new _ #[.string ⟨f1.toArray⟩, .string ⟨f2.toArray⟩] _) rfl (fun u hu => by simp at hu; rcases hu with rfl | rfl <;> rfl) (by omega) ?_; intro A4 c4 w6 hApp4 hF4 hblk4 hWr4; have hX := ((Frm.refl (Mb Ao wz) wz).drew.alloc (Mb.up Ao wz) (Obj.cells #[.string ⟨f1.toArray⟩, .string ⟨f2.toArray⟩] 30)).trans hF4; have hY := HMZ.out.rdr.keep hX HPRM.out; have hZ := HBZ.out.keep hX HBM.out)
    refine hK.out _ _ (.inr (⟨hY.cell 2, hZ.cell 0, hZ.cell 1⟩)) ?_
    clear hK K
    have hS6 : w6.cell? ⟨pr, 2, none⟩ = some (.slice Ao out.length co) ∧ w6.cell? ⟨b, 0, none⟩ = some (.string ⟨f1.toArray⟩) ∧ w6.cell? ⟨b, 1, none⟩ = some (.string ⟨f2.toArray⟩) := ⟨hY.cell 2, hZ.cell 0, hZ.cell 1⟩
    have hz6 := hY.frozen 2
    have hg6 : pr < w6.heap.size := hY.lt
    have hd6 := hS6.1
    have HAPP := Lib.hid hApp4
    have HX := Lib.hid hX
    clear hApp4 hF4 hblk4 hWr4 hX hY hZ hy0 hy1 hy2 hy3 hy4 hy5 hy6 hy7 hy8 hx1 hx2 hz2 hbl hS0 hn0 hn1
    refine wpAnyT_one (i := 8) rfl (by kernel_rfl) (fun K hK => ?_)
    go_simp
    refine hK.out _ _ (.inr (hS6)) ?_
    clear hK K
    refine wpAnyT_one (i := 9) rfl (by kernel_rfl) (fun K hK => ?_)
    go_simp
    refine hK.out _ _ (.inr (hS6)) ?_
    clear hK K
    refine wpAnyT_one (i := 10) rfl (by kernel_rfl) (fun K hK => ?_)
    go_simp
    refine hK.out _ _ (.inl (by kernel_rfl)) ?_
    clear hK K
    refine wpAnyT_done (by kernel_rfl) ?_ _
    have HM7 := Lib.hid (HMZ.out.append (out2 := out ++ [(f1, f2)]) (A2 := A4) (c2 := c4) (by rw [List.length_append]; simpa [fvs, str] using HAPP.out) (by simp) HX.out)
    rw [show (out ++ [(f1, f2)]).length = out.length + 1 by simp] at HM7
    generalize w6.setCell ⟨pr, 2, none⟩ (.slice A4 (out.length + 1) c4) = w7 at *
    clear hd6 hz6 hg6 hS6
    obtain ⟨hy0, hy1, hy2, hy3, hy4, hy5, hy6, hy7, hy8⟩ := HM7.out.cells
    rw [show (out ++ [(f1, f2)]).length = out.length + 1 by simp] at hy2
    by_cases hlt : out.length < 64
    · have hq : decide ((out.length : Int) + 1 ≤ 64) = true := decide_eq_true (by omega)
      have HLT := Lib.hid hlt
      clear hlt
      go_wp2_with (fail)
      refine (must_true _).mono ?_
      rintro e' w8 ⟨rfl, hw8⟩
      rw [hw8]
      clear hw8
      go_wp2
      go_end0
      unfold UpR
      refine ⟨fun _ => ⟨rfl, (f1, f2), add, r2, S2, A2, c2, A4, c4, HL.out, ?_⟩, fun hc => absurd ⟨by rw [HL.out]; rfl, HLT.out⟩ hc⟩
      rw [HT2.out]
      exact HM7.out
    · have hq : decide ((out.length : Int) + 1 ≤ 64) = false := decide_eq_false (by omega)
      have HLT := Lib.hid hlt
      clear hlt
      go_wp2_with (fail)
      refine (must_false _).mono ?_
      rintro e' w8 ⟨rfl, hw8⟩
      rw [hw8]
      clear hw8
      unfold PW
      go_wp2
      refine ⟨rfl, ?_⟩
      unfold UpR
      exact ⟨fun hc => absurd hc.2 HLT.out, fun _ => ⟨rfl, S2, T2, mu, up, _, r2, A2, c2, A4, c4, HM7.out⟩⟩
end Go.Proofs.Ytcebckkpablagaa.M
