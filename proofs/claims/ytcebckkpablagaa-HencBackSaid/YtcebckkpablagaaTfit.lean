/- dyn.Table.fit: which entries go. No condition but sizes. -/
import Derived.Test.YtcebckkpablagaaTab
import Derived.Deep.RegionWith
import Derived.StillTailTactics
import Derived.Deep.CutRange
import Derived.Deep.RegionHeld3
namespace Go.Proofs.Ytcebckkpablagaa.M
open Go.ChangeShapes Go.WideShapes Go.ChangeAt Go.RowKit

set_option maxRecDepth 100000 in
set_option maxHeartbeats 1000000 in
theorem fit_any {S : Nat → Prop} {g n cap c a b : Nat} {l : List Fld} {A : Option Addr} {ew : List (Fld × Value)} {en : List (Bytes × Value)} (room : Nat) (w : World)
    (h : TabAt S w g l n cap A c a b ew en) (hr : room ≤ 1152921504606846976) :
    Calls Try.prog 83 #[.pointer (some ⟨g, 0, none⟩), .int .i64 room] w fun e w' => e = .returned (.int .i64 ((l.length - (evict room cap l).length : Nat) : Int)) ∧
      ∃ A' c' ew' en', TabAt S w' g (evict room cap l) n cap A' c' a b ew' en' ∧ Frm (Own S w) w w' := by
  have hcb := h.cb
  have hlb := h.le
  have hnb := h.nb
  have H := Lib.hid h
  clear h
  go_enter Try.func83, Try.ntmps83
  go_wp2
  go_loopw [5] (fun i wr => ∃ (k : Nat) (l' : List Fld) (A' : Option Addr) (c' : Nat) (ew' : List (Fld × Value)) (en' : List (Bytes × Value)), i = .int .i64 k ∧ k + l'.length = l.length ∧
      Hid (evict room cap l' = evict room cap l) ∧ Hid (TabAt S wr g l' n cap A' c' a b ew' en') ∧ Hid (Frm (Own S w) w wr)) (fun i _ => l.length - (intOf i).toNat)
  case atStart => exact ⟨0, l, A, c, ew, en, rfl, by omega, rfl, H, Frm.refl _ _⟩
  case round =>
    obtain ⟨k, l', A', c', ew', en', rfl, hk, hE, hT, hF⟩ := hrel
    clear H
    obtain ⟨hb, hmw, hmn, hA, hsg, hsa, hsb, hlow, hab, hga, hgb, hgA, hiw, him, hle, _, _, hfb⟩ := hT.out
    have hd0 := hb.cell 0
    have hd1 := hb.cell 1
    have hd2 := hb.cell 2
    have hd3 := hb.cell 3
    have hd4 := hb.cell 4
    have hd5 := hb.cell 5
    have hl : g < wr.heap.size := hb.lt
    simp only [List.getElem?_toArray, List.getElem?_cons_zero, List.getElem?_cons_succ] at hd0 hd1 hd2 hd3 hd4 hd5
    have HB := Lib.hid hb
    have HMW := Lib.hid hmw
    have HMN := Lib.hid hmn
    have HA := Lib.hid hA
    have HG := Lib.hid hgA
    have HIW := Lib.hid hiw
    have HIM := Lib.hid him
    have hT2 := Lib.hid hT.out
    clear hb hmw hmn hA hgA hiw him hT
    cases l' with
    | nil =>
      simp only [List.length_nil] at hd0 hk
      have hE2 : Hid (evict room cap l = []) := hE.out.symm
      go_wp2
      go_quiet (fail)
      go_wp2
      go_ret
      rw [hE2.out]
      refine ⟨?_, A', c', ew', en', hT2.out.drewN _, hF.out.drewN _⟩
      show Ending.returned (.int .i64 (k : Int)) = _
      refine ret_int ?_
      simp; omega
    | cons f r =>
      simp only [List.length_cons] at hd0 hk
      have hsz1 : Hid (fsizes (f :: r) = fsize f + fsizes r) := fsizes_cons f r
      have hfb2 := hfb
      rw [fsizes_cons] at hfb2
      have hR := HA.out.rd
      obtain ⟨gA, off, rfl, hx⟩ := hR.at_ (k := 0) (by rw [fvs_length]; simp)
      clear hx
      obtain ⟨hc1, hc2⟩ := fld_cells hR 0 (by simp)
      have hgA1 : gA < wr.heap.size := World.block_lt_of_cell? _ _ hc1
      simp only [Nat.zero_mul, Nat.add_zero, List.getElem_cons_zero] at hc1 hc2
      have HR := Lib.hid hR
      clear hR
      generalize hsz : fsizes (f :: r) = sz at *
      by_cases hq : cap < sz + room
      · have hE2 : Hid (evict room cap (f :: r) = evict room cap r) := by show _ = _; rw [evict, hsz, if_pos hq]
        clear hsz
        obtain ⟨f1, f2⟩ := f
        simp only [str] at hc1 hc2
        go_wp2
        go_quiet (fail)
        go_wp2
        have hF1 : Hid (Frm (Own S w) w (wr.drewN nq)) := hF.out.drewN _
        have hT1 : Hid (TabAt S (wr.drewN nq) g ((f1, f2) :: r) n cap (some ⟨gA, off, none⟩) c' a b ew' en') := hT2.out.drewN _
        replace hd0 : (wr.drewN nq).cell? ⟨g, 0, none⟩ = some (.slice (some ⟨gA, off, none⟩) (r.length + 1) c') := hd0
        replace hd1 : (wr.drewN nq).cell? ⟨g, 1, none⟩ = some (.int .u64 n) := hd1
        replace hc1 : (wr.drewN nq).cell? ⟨gA, off, none⟩ = some (.string ⟨f1.toArray⟩) := hc1
        replace hc2 : (wr.drewN nq).cell? ⟨gA, off + 1, none⟩ = some (.string ⟨f2.toArray⟩) := hc2
        clear hd2 hd3 hd4 hd5 hF hT2 HB HA HR HMW HMN
        generalize wr.drewN nq = w1 at *
        have hn0 := World.new_ne w1 _ hd0
        have hn1 := World.new_ne w1 _ hc1
        go_cut [5, 6, 7] from 8 to 82 (fun v5 v6 v7 w2 => v5 = .int .i64 k ∧ ∃ fb : Nat, v6 = .pointer (some ⟨fb, 0, none⟩) ∧ v7 = .int .u64 ((n - (r.length + 1) : Nat) : Int) ∧ w1.heap.size ≤ fb ∧ Blk w2 fb 30 #[.string ⟨f1.toArray⟩, .string ⟨f2.toArray⟩] ∧ Frm (New w1) w1 w2)
        case first =>
          have hy0 : ∀ m : Nat, ((w1.drewN m).alloc (Obj.cells #[.string ⟨#[]⟩, .string ⟨#[]⟩] 30)).cell? ⟨w1.heap.size, 0, none⟩ = some (.string ⟨#[]⟩) := fun m => (Blk.new (w1.drewN m) 30 #[.string ⟨#[]⟩, .string ⟨#[]⟩]).cell 0
          have hy1 : ∀ m : Nat, ((w1.drewN m).alloc (Obj.cells #[.string ⟨#[]⟩, .string ⟨#[]⟩] 30)).cell? ⟨w1.heap.size, 1, none⟩ = some (.string ⟨#[]⟩) := fun m => (Blk.new (w1.drewN m) 30 #[.string ⟨#[]⟩, .string ⟨#[]⟩]).cell 1
          have hy2 : ∀ m i : Nat, ((w1.drewN m).alloc (Obj.cells #[.string ⟨#[]⟩, .string ⟨#[]⟩] 30)).frozen? ⟨w1.heap.size, i, none⟩ = false := fun m i => (Blk.new (w1.drewN m) 30 #[.string ⟨#[]⟩, .string ⟨#[]⟩]).frozen i
          go_region_held3 (fun w' => w'.cell? ⟨g, 0, none⟩ = some (.slice (some ⟨gA, off, none⟩) (r.length + 1) c') ∧ w'.cell? ⟨g, 1, none⟩ = some (.int .u64 n) ∧ w'.cell? ⟨gA, off, none⟩ = some (.string ⟨f1.toArray⟩) ∧ w'.cell? ⟨gA, off + 1, none⟩ = some (.string ⟨f2.toArray⟩))
            (go_keep)
            (first
              | (go_at_call 95
                 refine (tfirst_any (some ⟨gA, off, none⟩) g (r.length + 1) c' n _ (by first | exact hd0 | (go_split_ands; assumption)) (by first | exact hd1 | (go_split_ands; assumption)) (by omega) hnb).mono ?_
                 rintro e w2 ⟨rfl, nn, rfl⟩)
              | fail)
          all_goals clear hy0 hy1 hy2
          all_goals go_wp2
          all_goals go_meet
          all_goals refine ⟨rfl, w1.heap.size, rfl, rfl, Nat.le_refl _, ?_, ?_⟩
          all_goals first
            | exact ((Blk.new (w1.drewN _) 30 #[.string ⟨#[]⟩, .string ⟨#[]⟩]).set_ 0 (.string ⟨f1.toArray⟩)).set_ 1 (.string ⟨f2.toArray⟩)
            | exact ((((Frm.refl (New w1) w1).drewN _).alloc Up.new _).setCell (Nat.le_refl _) _).setCell (Nat.le_refl _) _
            | exact (((Blk.new w1 30 #[.string ⟨#[]⟩, .string ⟨#[]⟩]).drewN _).set_ 0 (.string ⟨f1.toArray⟩)).set_ 1 (.string ⟨f2.toArray⟩)
            | exact ((((Frm.refl (New w1) w1).alloc Up.new _).drewN _).setCell (Nat.le_refl _) _).setCell (Nat.le_refl _) _
        case rest =>
          obtain ⟨rfl, fb, rfl, rfl, hfb1, hbx, hF2⟩ := hcut
          have hfg : fb ≠ g ∧ fb ≠ a ∧ fb ≠ b ∧ fb ≠ gA := by
            have h1 := hT1.out.low g hsg
            have h2 := hT1.out.low a hsa
            have h3 := hT1.out.low b hsb
            have h4 : gA < w1.heap.size := World.block_lt_of_cell? _ _ hc1
            omega
          have hTc := hT1.out.fresh hF2
          have hFc : Hid (Frm (Own S w) w wc) := hF1.out.trans (hF2.mono (fun k hk => .inr (Nat.le_trans hF1.out.size hk)))
          clear hT1 hF1 hF2 hd0 hd1 hc1 hc2 hn0 hn1 HIW HIM HG
          obtain ⟨hb, hmw, hmn, hA, _, _, _, hlow, _, _, _, hgA, hiw, him, _, _, _, _⟩ := hTc
          have hd0 := hb.cell 0
          have hd3 := hb.cell 3
          have hd4 := hb.cell 4
          have hd5 := hb.cell 5
          have hx0 := hbx.cell 0
          have hx1 := hbx.cell 1
          have hl : g < wc.heap.size := hb.lt
          have hlx : fb < wc.heap.size := hbx.lt
          simp only [List.getElem?_toArray, List.getElem?_cons_zero, List.getElem?_cons_succ, List.length_cons] at hd0 hd3 hd4 hd5 hx0 hx1
          simp only [List.length_cons] at hA hiw him hle
          generalize hfi : n - (r.length + 1) = first at *
          have hfi2 : n - r.length = first + 1 := by omega
          have hlw := fun q : Nat => run_lookup fkey (M := 100) (E := 41) Try.underlying100 (z := .int .u64 0) (by kernel_rfl) (hmw.fresh ((Frm.refl _ _).drewN q)) (f1, f2) false
          have hgw := hiw.2 (f1, f2)
          simp only [lastAt, id] at hgw
          obtain ⟨x, hlk, hx⟩ : ∃ x : Nat, (∀ q : Nat, Sem.run Try.prog (Instr.lookup 100 (.map (some a)) (.agg #[.string ⟨f1.toArray⟩, .string ⟨f2.toArray⟩]) false) (wc.drewN q) = .ok (.int .u64 x) (wc.drewN q)) ∧
              Hid ((x = first ∧ lastAt id (f1, f2) (first + 1) r = none) ∨ (first < x ∧ lastAt id (f1, f2) (first + 1) r = some x)) := by
            cases e : lastAt id (f1, f2) (first + 1) r with
            | none =>
              refine ⟨first, fun q => ?_, .inl ⟨rfl, rfl⟩⟩
              have := hlw q
              rw [hgw, e] at this
              exact this
            | some i =>
              refine ⟨i, fun q => ?_, .inr ⟨(lastAt_range _ _ _ _ _ e).1, rfl⟩⟩
              have := hlw q
              rw [hgw, e] at this
              exact this
          have HB := Lib.hid hb
          have HX := Lib.hid hbx
          have HMW := Lib.hid hmw
          have HMN := Lib.hid hmn
          have HA := Lib.hid hA
          have HG := Lib.hid hgA
          have HIM := Lib.hid him
          have HIW := Lib.hid hiw
          have HF1 := Lib.hid hfi
          have HF2 := Lib.hid hfi2
          have HLW := Lib.hid hlow
          clear hb hbx hmw hmn hA hgA him hiw hfi hfi2 hlow hlw hgw
          go_wp2
          go_quiet (fail)
          go_upto_if 42 with (fail)
          clear hlk
          have hFq : Hid (Frm (· = a) wc (wc.drewN nq)) := (Frm.refl _ _).drewN nq
          have hmq : Hid (MapIs (wc.drewN nq) a fld ew') := HMW.out.fresh ((Frm.refl _ _).drewN nq)
          replace hd4 : (wc.drewN nq).cell? ⟨g, 4, none⟩ = some (.map (some a)) := hd4
          replace hx0 : (wc.drewN nq).cell? ⟨fb, 0, none⟩ = some (.string ⟨f1.toArray⟩) := hx0
          replace hx1 : (wc.drewN nq).cell? ⟨fb, 1, none⟩ = some (.string ⟨f2.toArray⟩) := hx1
          clear hd0 hd3 hd5
          generalize wc.drewN nq = wq at *
          go_cut [5, 6, 7] from 8 to 82 (fun v5 v6 v7 w2 => v5 = .int .i64 k ∧ v6 = .pointer (some ⟨fb, 0, none⟩) ∧ v7 = .int .u64 first ∧ ∃ ew2, Hid (MapIs w2 a fld ew2) ∧ Hid (MapInv id (first + 1) r ew2) ∧ Hid (Frm (· = a) wc w2))
          case first =>
            rcases hx.out with ⟨rfl, hcw⟩ | ⟨hlt, hcw⟩
            · have hiw2 := Lib.hid (HIW.out.gone (x := (f1, f2)) hcw)
              clear hcw hx
              go_wp2
              go_still_tail 5, (by kernel_rfl)
              change wpList _ _ _ _ _ wq.drew
              refine wpList_delete fkey Try.underlying100 rfl rfl rfl (k := (f1, f2)) rfl (hmq.out.fresh ((Frm.refl _ _).drew)) ?_
              intro wd hmd hFd hsd
              replace hFd : Hid (Frm (· = a) wc wd) := hFq.out.drew.trans hFd
              have hmd := Lib.hid hmd
              clear hsd hmq hFq hd4 hx0 hx1
              go_wp2
              go_meet
              exact ⟨rfl, rfl, rfl, _, hmd, hiw2, hFd⟩
            · have hiw2 := Lib.hid (HIW.out.stay (x := (f1, f2)) hcw)
              have hne : ¬ ((x : Int) = first) := by omega
              clear hcw hx
              go_wp2
              go_meet
              exact ⟨rfl, rfl, rfl, _, hmq, hiw2, hFq⟩
          case rest =>
            obtain ⟨rfl, rfl, rfl, ew2, hmd, hiw2, hFd⟩ := hcut
            rename World => wd
            have hb := HB.out.keep hFd.out hga
            have hbx := HX.out.keep hFd.out hfg.2.1
            have hmn := HMN.out.keep hFd.out (fun e => hab e.symm)
            have hA := HA.out.keep hFd.out (fun k hk => (HG.out k hk).2.1)
            have hFd1 : Hid (Frm (Own S w) w wd) := hFc.out.trans (hFd.out.mono (fun k hk => .inl (by rw [hk]; exact hsa)))
            have hFd2 := hFd.out.size
            clear hx hFq hmq hd4 hx0 hx1 hl hlx
            have hd5 := hb.cell 5
            have hx0 := hbx.cell 0
            have hl : g < wd.heap.size := hb.lt
            have hlx : fb < wd.heap.size := hbx.lt
            simp only [List.getElem?_toArray, List.getElem?_cons_zero, List.getElem?_cons_succ] at hd5 hx0
            have hlw := fun q : Nat => run_lookup skey (M := 101) (E := 41) Try.underlying101 (z := .int .u64 0) (by kernel_rfl) (hmn.fresh ((Frm.refl _ _).drewN q)) f1 false
            have hgw := HIM.out.2 f1
            simp only [lastAt] at hgw
            obtain ⟨x, hlk, hx⟩ : ∃ x : Nat, (∀ q : Nat, Sem.run Try.prog (Instr.lookup 101 (.map (some b)) (.string ⟨f1.toArray⟩) false) (wd.drewN q) = .ok (.int .u64 x) (wd.drewN q)) ∧
                Hid ((x = first ∧ lastAt Prod.fst f1 (first + 1) r = none) ∨ (first < x ∧ lastAt Prod.fst f1 (first + 1) r = some x)) := by
              cases e : lastAt Prod.fst f1 (first + 1) r with
              | none =>
                refine ⟨first, fun q => ?_, .inl ⟨rfl, rfl⟩⟩
                have := hlw q
                rw [hgw, e] at this
                exact this
              | some i =>
                refine ⟨i, fun q => ?_, .inr ⟨(lastAt_range _ _ _ _ _ e).1, rfl⟩⟩
                have := hlw q
                rw [hgw, e] at this
                exact this
            have HB2 := Lib.hid hb
            have HX2 := Lib.hid hbx
            have HMN2 := Lib.hid hmn
            have HA2 := Lib.hid hA
            clear hb hbx hmn hA HB HX HMN HA HMW hFc hlw hgw
            go_wp2
            go_quiet (fail)
            go_upto_if 56 with (fail)
            clear hlk
            have hFq : Hid (Frm (· = b) wd (wd.drewN nq)) := (Frm.refl _ _).drewN nq
            have hmq : Hid (MapIs (wd.drewN nq) b str en') := HMN2.out.fresh ((Frm.refl _ _).drewN nq)
            replace hd5 : (wd.drewN nq).cell? ⟨g, 5, none⟩ = some (.map (some b)) := hd5
            replace hx0 : (wd.drewN nq).cell? ⟨fb, 0, none⟩ = some (.string ⟨f1.toArray⟩) := hx0
            generalize wd.drewN nq = wq at *
            go_cut [5, 6, 7] from 8 to 82 (fun v5 v6 v7 w2 => v5 = .int .i64 k ∧ v6 = .pointer (some ⟨fb, 0, none⟩) ∧ v7 = .int .u64 first ∧ ∃ en2, Hid (MapIs w2 b str en2) ∧ Hid (MapInv Prod.fst (first + 1) r en2) ∧ Hid (Frm (· = b) wd w2))
            case first =>
              rcases hx.out with ⟨rfl, hcw⟩ | ⟨hlt, hcw⟩
              · have him2 := Lib.hid (HIM.out.gone (x := (f1, f2)) hcw)
                clear hcw hx
                go_wp2
                go_still_tail 6, (by kernel_rfl)
                change wpList _ _ _ _ _ wq.drew
                refine wpList_delete skey Try.underlying101 rfl rfl rfl (k := f1) rfl (hmq.out.fresh ((Frm.refl _ _).drew)) ?_
                intro we hme hFe hse
                replace hFe : Hid (Frm (· = b) wd we) := hFq.out.drew.trans hFe
                have hme := Lib.hid hme
                clear hse hmq hFq hd5 hx0
                go_wp2
                go_meet
                exact ⟨rfl, rfl, rfl, _, hme, him2, hFe⟩
              · have him2 := Lib.hid (HIM.out.stay (x := (f1, f2)) hcw)
                have hne : ¬ ((x : Int) = first) := by omega
                clear hcw hx
                go_wp2
                go_meet
                exact ⟨rfl, rfl, rfl, _, hmq, him2, hFq⟩
            case rest =>
              obtain ⟨rfl, rfl, rfl, en2, hme, him2, hFe⟩ := hcut
              rename World => we
              have hb := HB2.out.keep hFe.out hgb
              have hbx := HX2.out.keep hFe.out hfg.2.2.1
              have hmw := hmd.out.keep hFe.out hab
              have hA := HA2.out.keep hFe.out (fun k hk => (HG.out k hk).2.2)
              have hFe1 : Hid (Frm (Own S w) w we) := hFd1.out.trans (hFe.out.mono (fun k hk => .inl (by rw [hk]; exact hsb)))
              have hFe2 := hFe.out.size
              clear HB2 HX2 hmd HA2 hFd1 hFe hFd HMN2 HIM hx hFq hmq hd5 hx0 hl hlx HIW
              have hd0 := hb.cell 0
              have hz0 := hb.frozen 0
              have hl : g < we.heap.size := hb.lt
              simp only [List.getElem?_toArray, List.getElem?_cons_zero, List.length_cons] at hd0
              have hcap : r.length + 1 ≤ c' := hA.cap
              have hA2 := hA.tail
              have hA2f : ∀ k, M.blk (if c' = 1 then some (⟨gA, off, none⟩ : Addr) else (some (⟨gA, off, none⟩ : Addr)).map (·.add 2)) = some k → k ≠ g ∧ k ≠ a ∧ k ≠ b := fun k hk => by
                refine HG.out k ?_
                rw [← hk]
                split <;> simp [M.blk, Addr.add]
              have HRT := fun (o : Oper) (a : Act) (x : Operand) => run_tail (P := Try.prog) (o := o) (a := a) (w := we) (t := 27) (e := 30) (x := x) (A := some ⟨gA, off, none⟩) (n := r.length) (c := c') (size := 2)
              generalize (if c' = 1 then some (⟨gA, off, none⟩ : Addr) else (some (⟨gA, off, none⟩ : Addr)).map (·.add 2)) = A2 at *
              have HRT := Lib.hid HRT
              have HB := Lib.hid hb
              have HX := Lib.hid hbx
              have HMW := Lib.hid hmw
              have HA2 := Lib.hid hA2
              have HAF := Lib.hid hA2f
              clear hb hbx hmw hA hA2 hA2f
              go_upto_region 9 with (refine wpList_val rfl (.slice A2 r.length (c' - 1)) (HRT.out _ _ _ rfl rfl hcap Try.underlying27 (by kernel_rfl)) ?_)
              have hb := HB.out.set_ 0 (.slice A2 r.length (c' - 1))
              have hbx := HX.out.far (p := ⟨g, 0, none⟩) hfg.1 (.slice A2 r.length (c' - 1))
              have hFg : Hid (Frm (fun k => k = g ∨ New we k) we (we.setCell ⟨g, 0, none⟩ (.slice A2 r.length (c' - 1)))) := (Frm.refl _ we).setCell (.inl rfl) _
              have hsz3 : (we.setCell ⟨g, 0, none⟩ (.slice A2 r.length (c' - 1))).heap.size = we.heap.size := by simp
              generalize we.setCell ⟨g, 0, none⟩ (.slice A2 r.length (c' - 1)) = wf at *
              clear hd0 hz0 hl HRT
              have hd3 := hb.cell 3
              have hz3 := hb.frozen 3
              have hx0 := hbx.cell 0
              have hx1 := hbx.cell 1
              have hl : g < wf.heap.size := hb.lt
              have hlx : fb < wf.heap.size := hbx.lt
              have hs1 : Hid (fsizes [(f1, f2)] = fsize (f1, f2)) := by show _ = _; simp [fsizes]
              generalize hsf : fsize (f1, f2) = s1 at *
              generalize hsr : fsizes r = sr at *
              have hs2 : fsizes ((f1, f2) :: r) = s1 + sr := by rw [fsizes_cons, hsf, hsr]
              simp only [List.getElem?_toArray, List.getElem?_cons_zero, List.getElem?_cons_succ, List.setIfInBounds_toArray, List.set_cons_zero, hs2] at hd3 hx0 hx1
              have HS := Lib.hid hs2
              have HSR := Lib.hid hsr
              have hsz1o := hsz1.out
              rw [← hsz1o] at hd3
              have hwr : IntKind.i64.wrap ((sz : Int) - (s1 : Int)) = (sr : Int) := by
                rw [show ((sz : Int) - (s1 : Int)) = (sr : Int) from by omega]
                exact IntWalk.i64_in _ (by omega)
              have HSZ := Lib.hid hsz3
              have HB3 := Lib.hid hb
              have HX3 := Lib.hid hbx
              have hsl : s1 ≤ 4611686018427387903 := by omega
              clear hs2 hsr hsf hsz3 hsz1o hb hbx
              go_cut [5, 6, 7] from 8 to 82 (fun v5 v6 v7 w2 => v5 = .int .i64 k ∧ v6 = .pointer (some ⟨fb, 0, none⟩) ∧ v7 = .int .u64 first ∧ ∃ w3, Hid (Frm (New wf) wf w3) ∧ w2 = w3.setCell ⟨g, 3, none⟩ (.int .i64 sr))
              case first =>
                go_region_with (first
                  | (go_at_call 78
                     refine (size_any [(f1, f2)] _ 1 _ (by first | exact Rd.new _ #[.string ⟨f1.toArray⟩, .string ⟨f2.toArray⟩] _ | exact (Rd.new _ #[.string ⟨f1.toArray⟩, .string ⟨f2.toArray⟩] _).drew) (by rw [hs1.out]; exact hsl) (by simp)).mono ?_
                     rintro e w2 ⟨rfl, hFs⟩
                     have hT : Frm (New wf) wf w2 := Frm.then_new (by first | exact ((Frm.refl _ _).drew).alloc Up.new _ | exact ((Frm.refl _ _).alloc Up.new _).drew) Up.new hFs
                     have k1 := (hT.cell (p := ⟨g, 3, none⟩) (fun c => by unfold New at c; simp at c; omega)).trans hd3
                     have k4 := (hT.frozen (p := ⟨g, 3, none⟩) (fun c => by unfold New at c; simp at c; omega)).trans hz3
                     have hT2 := Lib.hid hT
                     clear hT hFs
                     rw [hs1.out])
                  | fail)
                all_goals go_wp2
                all_goals go_meet
                all_goals exact ⟨rfl, rfl, rfl, _, hT2, rfl⟩
              case rest =>
                obtain ⟨rfl, rfl, rfl, w3, hT2, rfl⟩ := hcut
                go_wp2
                go_roundw
                case rel =>
                  have hB4 := (Blk.fresh HB3.out hT2.out).set_ 3 (.int .i64 sr)
                  have hFz : Frm (fun k => k = g ∨ New we k) we (w3.setCell ⟨g, 3, none⟩ (.int .i64 sr)) :=
                    (hFg.out.trans (hT2.out.mono (fun k hk => .inr (by have := HSZ.out; unfold New at hk ⊢; omega)))).setCell (.inl rfl) _
                  have hla := HMW.out.lt
                  have hlb := hme.out.lt
                  have hlS : ∀ k, S k → k < we.heap.size := fun k hk => by have := HLW.out k hk; omega
                  refine ⟨k + 1, r, A2, c' - 1, ew2, en2, by go_num, by omega, hE2.out.symm.trans hE.out, ?_, ?_⟩
                  · refine ⟨?_, HMW.out.keep hFz ?_, hme.out.keep hFz ?_, HA2.out.keep hFz ?_, hsg, hsa, hsb, ?_, hab, hga, hgb, HAF.out, ?_, ?_, by omega, hnb, hcb, ?_⟩
                    · rw [HSR.out]
                      simpa using hB4
                    · rintro (c | c)
                      · exact hga c.symm
                      · unfold New at c; omega
                    · rintro (c | c)
                      · exact hgb c.symm
                      · unfold New at c; omega
                    · intro k hk
                      rintro (c | c)
                      · exact (HAF.out k hk).1 c
                      · have := hlS k (HA2.out.inM k hk)
                        unfold New at c; omega
                    · intro k hk
                      exact Nat.lt_of_lt_of_le (hlS k hk) hFz.size
                    · rw [HF2.out]; exact hiw2.out
                    · rw [HF2.out]; exact him2.out
                    · rw [HSR.out]; omega
                  · refine hFe1.out.trans (hFz.mono ?_)
                    rintro k (c | c)
                    · exact .inl (by rw [c]; exact hsg)
                    · have := hFe1.out.size
                      unfold New at c
                      exact .inr (by omega)
                case measure => simp [intOf]; omega
      · have hE2 : Hid (evict room cap (f :: r) = f :: r) := by show _ = _; rw [evict, hsz, if_neg hq]
        clear hsz
        have hE3 : Hid (evict room cap l = f :: r) := hE.out.symm.trans hE2.out
        go_wp2
        go_quiet (fail)
        go_wp2
        go_ret
        rw [hE3.out]
        refine ⟨?_, _, c', ew', en', hT2.out.drewN _, hF.out.drewN _⟩
        show Ending.returned (.int .i64 (k : Int)) = _
        refine ret_int ?_
        simp; omega
end Go.Proofs.Ytcebckkpablagaa.M
