/- The document's QPACK decoder: lines that are right. The document's QPACK decoder: Decode of a section that is right. -/
import Derived.BigQuiet
import Derived.Deep.CutBlock
import Derived.Lib.Hide
import Derived.IntWalk
import Derived.Deep.LoopGhost
import Derived.Test.YtdgggjeiflllhaaPg
import Derived.StillTailTactics
namespace Go.Proofs.Ytdgggjeiflllhaa.M
open Go.ChangeShapes Go.WideShapes Go.ChangeAt Go.RowKit

set_option maxRecDepth 100000 in
set_option maxHeartbeats 1000000 in
theorem rat_no (l : List Fld) (i : Nat) (A : Option Addr) (c : Nat) (w : World) (hi : l.length ≤ i) (hl : l.length ≤ 1099511627776) :
    Calls Try.prog 82 #[.slice A l.length c, .int .u64 i] w fun e w' => e = .returned (.tuple #[fld ([], []), .bool false]) ∧ Frm (New w) w w' := by
  have hw0 : IntKind.u64.wrap (l.length : Int) = (l.length : Int) := IntWalk.u64_in _ (by omega)
  generalize l.length = ln at *
  have hqi : (ln : Int) ≤ (i : Int) := by omega
  go_enter Try.func82, Try.ntmps82
  go_wp2
  refine bodyPost_ret (results_agg_tmp aggf rfl rfl rfl (Blk.new w 71 #[.string ⟨#[]⟩, .string ⟨#[]⟩]) rfl) rfl ?_
  exact ⟨rfl, (Frm.refl _ _).alloc Up.new _⟩
theorem rat_some (l : List Fld) (i : Nat) (A : Option Addr) (c : Nat) (w : World) (hR : Rd w A (fvs l)) (hl : l.length ≤ 1099511627776) :
    ∃ (g1 g2 : Bytes) (ok : Bool), Calls Try.prog 82 #[.slice A l.length c, .int .u64 i] w fun e w' => e = .returned (.tuple #[.agg #[.string ⟨g1.toArray⟩, .string ⟨g2.toArray⟩], .bool ok]) ∧ Frm (New w) w w' := by
  by_cases h : i < l.length
  · exact ⟨_, _, _, rat_ok l i l[i] A c w hR (List.getElem?_eq_getElem h) hl⟩
  · exact ⟨_, _, _, rat_no l i A c w (by omega) hl⟩
/-- what a line is when its kind is read: what is taken, what is left -/
def Piece (x : Lq) (ln : Bytes) (k : Nat) (wh : Bool) (nm vv : Bytes) : Prop :=
  ∃ p q, ln = p ++ q ∧ k = p.length ∧ (wh = true → q = [] ∧ (nm, vv) = x.f) ∧ (wh = false → q = strc 128 0 7 x.f.2 ∧ nm = x.f.1 ∧ k < ln.length)
set_option maxRecDepth 100000 in
set_option maxHeartbeats 8000000 in
theorem rqlines_ok {S : Nat → Prop} {g pd : Nat} {T : Tb} (ls : List Lq) (ct : Nat) (A : Option Addr) (c : Nat) (w : World) (hR : Rd w A (bvs (linesN ct ls))) (hl : (linesN ct ls).length ≤ 1099511627776) (hc : (linesN ct ls).length ≤ c)
    (hd : w.cell? ⟨pd, 0, none⟩ = some (.pointer (some ⟨g, 0, none⟩))) (hT : RTabS S w g T) (hok : ∀ x ∈ ls, LineOk T ct x) (h64 : ls.length ≤ 64) (hct : ct ≤ 1152921504606846976) :
    Calls Try.prog 51 #[.pointer (some ⟨pd, 0, none⟩), .slice A (linesN ct ls).length c, .int .u64 (ct : Int), .int .u64 (ct : Int)] w fun e w' => ∃ (A2 : Option Addr) (c2 : Nat), e = .returned (.tuple #[.slice A2 ls.length c2, .int .i64 0]) ∧ ls.length ≤ c2 ∧ Rd w' A2 (fvs (ls.map (·.f))) ∧ Frm (New w) w w' ∧ ∀ kk, M.blk A2 = some kk → w.heap.size ≤ kk ∧ kk < w'.heap.size := by
  have haw : 0 < ls.length → ∀ kk, M.blk A = some kk → kk < w.heap.size := fun h0 kk hk => by
    obtain ⟨gg, off, rfl, hlt⟩ := hR.lt (by
      cases ls with
      | nil => exact absurd h0 (Nat.lt_irrefl _)
      | cons x t =>
        intro e
        have h1 := congrArg List.length e
        rw [bvs_length] at h1
        have h2 : linesN ct (x :: t) = lineN ct x ++ linesN ct t := rfl
        rw [h2, List.length_append] at h1
        have h3 := List.length_pos_iff.2 (lineN_ne ct x)
        simp only [List.length_nil] at h1
        omega)
    cases hk
    exact hlt
  have HR := Lib.hid hR
  have HD := Lib.hid hd
  have HT := Lib.hid hT
  have HOK := Lib.hid hok
  have HAW := Lib.hid haw
  clear hR hd hT hok haw
  go_enter Try.func51, Try.ntmps51
  go_wp2_with (fail)
  refine (h3s_any w).mono ?_
  rintro e w1 ⟨gs, rfl, hgs, hBs, hF1⟩
  have hST1 : Rd w1 (some ⟨gs, 0, none⟩) (fvs h3tab) := by have := hBs.rd; simpa using this
  have hR1 := HR.out.fresh hF1
  clear hBs hgs
  have HST1 := Lib.hid hST1
  have HF1 := Lib.hid hF1
  have HR1 := Lib.hid hR1
  clear hST1 hF1 hR1
  go_wp2_with (fail)
  go_loopg [1, 11] ls.length (fun kk v1 v11 wx => ∃ (j : Nat) (A1 : Option Addr) (c1 : Nat) (A11 : Option Addr) (c11 : Nat), j + kk = ls.length ∧ v1 = .slice A1 (linesN ct (ls.drop j)).length c1 ∧ v11 = .slice A11 j c11 ∧ (linesN ct (ls.drop j)).length ≤ c1 ∧ (linesN ct (ls.drop j)).length ≤ 1099511627776 ∧ Hid (Rd wx A1 (bvs (linesN ct (ls.drop j)))) ∧ Hid (App (New w) wx 71 2 A11 j c11 (fvs ((ls.take j).map (·.f)))) ∧ Hid (Frm (New w) w wx) ∧ Hid (Rd wx (some ⟨gs, 0, none⟩) (fvs h3tab)) ∧ Hid (∀ kk, M.blk A11 = some kk → kk < wx.heap.size ∧ kk ≠ gs) ∧ Hid (j < ls.length → ∀ kk, M.blk A1 = some kk → kk < w.heap.size))
  case atStart => exact ⟨0, A, c, none, 0, by omega, rfl, rfl, hc, hl, HR1, Lib.hid App.none_, HF1, HST1, Lib.hid (fun kk hk => by cases hk), Lib.hid (fun hj0 kk hk => HAW.out hj0 kk hk)⟩
  case round =>
    clear HR1 HF1 HST1
    obtain ⟨j, A1, c1, A11, c11, hj, rfl, rfl, hc1, hbl, hR1, hA11, hF, hST, hnb0, hgb0⟩ := hrel
    rename World => wx
    by_cases hjl : j < ls.length
    · skip
      have hdr : ls.drop j = ls[j] :: ls.drop (j + 1) := List.drop_eq_getElem_cons hjl
      have htk : (ls.take (j + 1)).map (·.f) = (ls.take j).map (·.f) ++ [ls[j].f] := by rw [List.take_succ_eq_append_getElem hjl, List.map_append]; rfl
      have hx := HOK.out _ (List.getElem_mem hjl)
      generalize ls[j] = x at *
      have hcons : linesN ct (ls.drop j) = lineN ct x ++ linesN ct (ls.drop (j + 1)) := by rw [hdr]; rfl
      clear hdr
      obtain ⟨r, hr⟩ : ∃ r, r = linesN ct (ls.drop (j + 1)) := ⟨_, rfl⟩
      rw [← hr] at hcons
      rw [hcons] at hc1 hbl hR1 ⊢
      have hne := lineN_ne ct x
      obtain ⟨b, hb⟩ : ∃ b, b = lineN ct x ++ r := ⟨_, rfl⟩
      have hb0 : 0 < b.length := by rw [hb, List.length_append]; have := List.length_pos_iff.2 hne; omega
      rw [← hb] at hc1 hbl hR1 ⊢
      have hb0i : (0 : Int) < (b.length : Int) := by omega
      have hj64 : (j : Int) < 64 := by omega
      have hj64n : ¬ (64 : Int) ≤ (j : Int) := by omega
      obtain ⟨gb, off, hAe, hx0⟩ := hR1.out.at_ (k := 0) (by rw [bvs_length]; exact hb0)
      subst hAe
      have hxc : wx.cell? ⟨gb, off, none⟩ = some (.int .u8 ((b.headD 0).toNat : Int)) := by
        rw [Nat.add_zero] at hx0
        rw [hx0]
        cases b with
        | nil => simp at hb0
        | cons x r => rfl
      clear hx0 hcons
      have hx8 : (b.headD 0).toNat < 256 := (b.headD 0).toNat_lt
      obtain ⟨hd8, hhd8⟩ : ∃ hd8, hd8 = (b.headD 0).toNat := ⟨_, rfl⟩
      rw [← hhd8] at hxc hx8
      have hgl := World.block_lt_of_cell? _ _ hxc
      simp only at hgl
      have hdx : ∀ w', Frm (New w) w w' → w'.cell? ⟨pd, 0, none⟩ = some (.pointer (some ⟨g, 0, none⟩)) := fun w' fr => (fr.cell (p := ⟨pd, 0, none⟩) (fun e => by have := World.block_lt_of_cell? _ _ HD.out; unfold New at e; simp only at this e; omega)).trans HD.out
      have hhd : b.headD 0 = (lineN ct x).headD 0 := by rw [hb]; exact headD_app _ _ hne
      have HX := Lib.hid hx
      have HTK := Lib.hid htk
      have HR := Lib.hid hr
      have HB := Lib.hid hb
      have HDX := Lib.hid hdx
      have HHD := Lib.hid hhd
      have HX8 := Lib.hid hx8
      have HHD8 := Lib.hid hhd8
      clear hx htk hr hb hdx hhd hx8 hhd8
      go_upto_block 2 with (fail)
      have hBx := Blk.new wx 71 #[.string ⟨#[]⟩, .string ⟨#[]⟩]
      have hFx : Frm (New wx) wx (wx.alloc (Obj.cells #[.string ⟨#[]⟩, .string ⟨#[]⟩] 71)) := (Frm.refl _ _).alloc Up.new _
      obtain ⟨bx, hbx⟩ : ∃ bx, bx = wx.heap.size := ⟨_, rfl⟩
      have hbw : w.heap.size ≤ bx := by have := hF.out.size; omega
      rw [← hbx] at hBx ⊢
      have hR2 := hR1.out.fresh hFx
      have hA2 := hA11.out.fresh hFx
      have hF2 := hF.out.then_new Up.new hFx
      have hST2 := hST.out.fresh hFx
      generalize wx.alloc (Obj.cells #[.string ⟨#[]⟩, .string ⟨#[]⟩] 71) = w2 at *
      have hl22 : bx < w2.heap.size := hBx.lt
      have hnb : ∀ kk, M.blk A11 = some kk → kk < bx ∧ kk ≠ gs := fun kk hk => ⟨by have := (hnb0.out kk hk).1; omega, (hnb0.out kk hk).2⟩
      have hgbw : gb < w.heap.size := hgb0.out hjl gb rfl
      have hgbx : gb < bx := by omega
      have hgsx : gs < bx := by
        have := hST.out.lt (by intro e; have := congrArg List.length e; rw [fvs_length, h3_len.2.2] at this; simp at this)
        obtain ⟨gg, oo, e, hlt⟩ := this
        cases e
        omega
      clear hxc hgl hR1 hA11 hF hST hFx hbx hnb0 hgb0
      have HBX := Lib.hid hBx
      have HR2 := Lib.hid hR2
      have HA2 := Lib.hid hA2
      have HF2 := Lib.hid hF2
      have HST2 := Lib.hid hST2
      have HNB := Lib.hid hnb
      clear hBx hR2 hA2 hF2 hST2 hnb
      go_cut [14, 15, 16, 17, 18, 19, 20, 21, 22, 23, 24, 25, 26, 27, 28, 29, 30, 31, 32, 33, 34, 35, 36, 37, 38, 39] from 53 to 189 (fun v14 v15 v16 v17 v18 v19 v20 v21 v22 v23 v24 v25 v26 v27 v28 v29 v30 v31 v32 v33 v34 v35 v36 v37 v38 v39 w' => ∃ (k : Nat) (wh : Bool) (nm vv : Bytes), v14 = .bool true ∧ v15 = .bool wh ∧ v16 = .int .i64 (k : Int) ∧ Hid (Piece x (lineN ct x) k wh nm vv) ∧ Hid (Blk w' bx 71 #[.string ⟨nm.toArray⟩, .string ⟨vv.toArray⟩]) ∧ Hid (Frm (fun k => k = bx ∨ New w2 k) w2 w'))
      case first =>
        obtain ⟨xk, xi, f1, f2⟩ := x
        have hxi := HX.out.i
        simp only at hxi
        by_cases k0 : xk = 0
        · subst k0
          as_aux_lemma =>
            have hbe : b = pfx 192 6 xi ++ r := HB.out
            have a1 := rdp_pfx 192 6 xi r (by omega) (by omega) (by omega)
            have a2 : hd8 / 64 = 3 := by rw [HHD8.out, hbe]; exact pfx_headD 192 6 xi r (by omega) (by omega)
            rw [← hbe] at a1
            obtain ⟨n, hn⟩ : ∃ n, n = (pfx 192 6 xi).length := ⟨_, rfl⟩
            rw [← hn] at a1
            obtain ⟨ea1, eb1⟩ : (bits .and .u8 (hd8 : Int) 128 == 0) = false ∧ (bits .and .u8 (hd8 : Int) 128 != 0) = true := mask_is (x := hd8) (m := 128) (b := false) HX8.out (.inl rfl) (decide_eq_false (by omega))
            obtain ⟨ea2, eb2⟩ : (bits .and .u8 (hd8 : Int) 64 == 0) = false ∧ (bits .and .u8 (hd8 : Int) 64 != 0) = true := mask_is (x := hd8) (m := 64) (b := false) HX8.out (.inr (.inl rfl)) (decide_eq_false (by omega))
            have hrd : ∀ w', Frm (New w2) w2 w' → Calls Try.prog 62 #[.slice (some ⟨gb, off, none⟩) b.length c1, .int .i64 6] w' fun e w3 => e = .returned (.tuple #[.int .u64 (xi : Int), .int .i64 (n : Int), .int .i64 0]) ∧ ∃ q, w3 = w'.drewN q := fun w' fr => by
              have := rrdp_any b (some ⟨gb, off, none⟩) c1 6 w' (HR2.out.fresh fr) (by omega) (by omega) (by omega)
              rw [a1] at this
              exact this
            have hg := HX.out.k0 rfl
            simp only at hg
            have hat := fun w' (fr : Frm (New w2) w2 w') => rat_ok h3tab xi (f1, f2) (some ⟨gs, 0, none⟩) 99 w' (HST2.out.fresh fr) hg (by rw [h3_len.2.2]; omega)
            rw [h3_len.2.2] at hat
            simp only [fld, str] at hat
            clear a1 a2 hbe hg
            generalize b.length = bn at *
            have HRD := Lib.hid hrd
            have HAT := Lib.hid hat
            have HN := Lib.hid hn
            clear hrd hat hn
            go_wp2_with (fail)
            refine (HRD.out w2 (Frm.refl _ _)).mono ?_
            rintro e w3 ⟨rfl, q3, rfl⟩
            have hF3 : Frm (New w2) w2 (w2.drewN q3) := (Frm.refl _ _).drewN q3
            go_wp2_with (fail)
            refine (HAT.out (w2.drewN q3) hF3).mono ?_
            rintro e w4 ⟨rfl, hF4⟩
            have hF4' := hF3.then_new Up.new hF4
            have hBX4 := HBX.out.fresh hF4'
            clear hF3 hF4 HRD HAT
            have HBX4 := Lib.hid hBX4
            clear hBX4
            have hy0 := HBX4.out.cell 0
            have hy1 := HBX4.out.cell 1
            simp only [List.getElem?_toArray, List.getElem?_cons_zero, List.getElem?_cons_succ] at hy0 hy1
            have hz0 := HBX4.out.frozen 0
            have hz1 := HBX4.out.frozen 1
            have hbl := HBX4.out.lt
            have hB5 := (HBX4.out.set_ 0 (.string ⟨f1.toArray⟩)).set_ 1 (.string ⟨f2.toArray⟩)
            have hF5 : Frm (fun k => k = bx ∨ New w2 k) w2 ((w4.setCell ⟨bx, 0, none⟩ (.string ⟨f1.toArray⟩)).setCell ⟨bx, 1, none⟩ (.string ⟨f2.toArray⟩)) := ((hF4'.mono (fun k hk => .inr hk)).setCell (p := ⟨bx, 0, none⟩) (.inl rfl) _).setCell (p := ⟨bx, 1, none⟩) (.inl rfl) _
            have HB5 := Lib.hid hB5
            have HF5 := Lib.hid hF5
            have HF4' := Lib.hid hF4'
            clear hB5 hF5 hF4'
            go_wp2_with (fail)
            go_meet
            exact ⟨n, true, f1, f2, rfl, rfl, rfl, Lib.hid ⟨pfx 192 6 xi, [], by simp only [List.append_nil]; rfl, HN.out, fun _ => ⟨rfl, rfl⟩, fun e => (by cases e)⟩, HB5, HF5⟩
        by_cases k1 : xk = 1
        · subst k1
          as_aux_lemma =>
            have hbe : b = pfx 128 6 (ct - 1 - xi) ++ r := HB.out
            have a1 := rdp_pfx 128 6 (ct - 1 - xi) r (by omega) (by omega) (by omega)
            have a2 : hd8 / 64 = 2 := by rw [HHD8.out, hbe]; exact pfx_headD 128 6 (ct - 1 - xi) r (by omega) (by omega)
            rw [← hbe] at a1
            obtain ⟨n, hn⟩ : ∃ n, n = (pfx 128 6 (ct - 1 - xi)).length := ⟨_, rfl⟩
            rw [← hn] at a1
            obtain ⟨iv, hiv⟩ : ∃ iv, iv = ct - 1 - xi := ⟨_, rfl⟩
            rw [← hiv] at a1
            obtain ⟨ea1, eb1⟩ : (bits .and .u8 (hd8 : Int) 128 == 0) = false ∧ (bits .and .u8 (hd8 : Int) 128 != 0) = true := mask_is (x := hd8) (m := 128) (b := false) HX8.out (.inl rfl) (decide_eq_false (by omega))
            obtain ⟨ea2, eb2⟩ : (bits .and .u8 (hd8 : Int) 64 == 0) = true ∧ (bits .and .u8 (hd8 : Int) 64 != 0) = false := mask_is (x := hd8) (m := 64) (b := true) HX8.out (.inr (.inl rfl)) (decide_eq_true (by omega))
            have hrd : ∀ w', Frm (New w2) w2 w' → Calls Try.prog 62 #[.slice (some ⟨gb, off, none⟩) b.length c1, .int .i64 6] w' fun e w3 => e = .returned (.tuple #[.int .u64 (iv : Int), .int .i64 (n : Int), .int .i64 0]) ∧ ∃ q, w3 = w'.drewN q := fun w' fr => by
              have := rrdp_any b (some ⟨gb, off, none⟩) c1 6 w' (HR2.out.fresh fr) (by omega) (by omega) (by omega)
              rw [a1] at this
              exact this
            obtain ⟨hat0, hlt0'⟩ := HX.out.k1 rfl
            have hlt0 : xi < ct := hlt0'
            obtain ⟨g1, g2, ok, hat⟩ : ∃ (g1 g2 : Bytes) (ok : Bool), ∀ w', Frm (New w2) w2 w' → Calls Try.prog 82 #[.slice (some ⟨gs, 0, none⟩) 99 99, .int .u64 (iv : Int)] w' fun e w3 => e = .returned (.tuple #[.agg #[.string ⟨g1.toArray⟩, .string ⟨g2.toArray⟩], .bool ok]) ∧ Frm (New w') w' w3 := by
              have hlen := h3_len.2.2
              by_cases h : iv < h3tab.length
              · refine ⟨(h3tab[iv]).1, (h3tab[iv]).2, true, fun w' fr => ?_⟩
                have := rat_ok h3tab iv h3tab[iv] (some ⟨gs, 0, none⟩) 99 w' (HST2.out.fresh fr) (List.getElem?_eq_getElem h) (by omega)
                rw [hlen] at this
                exact this
              · refine ⟨[], [], false, fun w' fr => ?_⟩
                have := rat_no h3tab iv (some ⟨gs, 0, none⟩) 99 w' (by omega) (by omega)
                rw [hlen] at this
                exact this
            have hrl : ∀ w', Calls Try.prog 88 #[.int .u64 (ct : Int), .int .u64 (iv : Int)] w' fun e w3 => e = .returned (.tuple #[.int .u64 (xi : Int), .bool true]) ∧ w' = w3 := fun w' => by
              have := rqrel_any (ct : Int) (iv : Int) w' (by omega) (by omega) (by omega) (by omega)
              rw [(qrel_nat ct iv).1, (qrel_nat ct iv).2] at this
              have hr : relQ ct iv = (xi, true) := by unfold relQ; have := hiv; rw [if_neg (by omega)]; exact Prod.ext (by show ct - 1 - iv = xi; omega) rfl
              rw [hr] at this
              exact this
            have hen : ∀ w', Frm (fun k => k = bx ∨ New w2 k) w2 w' → Calls Try.prog 89 #[.pointer (some ⟨pd, 0, none⟩), .int .u64 (xi : Int), .bool true, .int .u64 (ct : Int)] w' fun e w3 => e = .returned (.tuple #[.agg #[.string ⟨f1.toArray⟩, .string ⟨f2.toArray⟩], .bool true]) ∧ Frm (New w') w' w3 := fun w' fr => by
              have hFw : Frm (New w) w w' := HF2.out.trans (fr.mono (fun k hk => by
                rcases hk with e | e
                · exact e ▸ hbw
                · exact Nat.le_trans HF2.out.size e))
              exact rdent_ok xi ct (f1, f2) w' (HDX.out w' hFw) (HT.out.fresh hFw) hat0 hlt0
            clear a1 a2 hbe hat0 hlt0
            generalize b.length = bn at *
            have HRD := Lib.hid hrd
            have HAT := Lib.hid hat
            have HN := Lib.hid hn
            have HRL := Lib.hid hrl
            have HEN := Lib.hid hen
            have HIV := Lib.hid hiv
            clear hrd hat hn hrl hen hiv
            go_wp2_with (fail)
            refine (HRD.out w2 (Frm.refl _ _)).mono ?_
            rintro e w3 ⟨rfl, q3, rfl⟩
            have hF3 : Frm (New w2) w2 (w2.drewN q3) := (Frm.refl _ _).drewN q3
            go_wp2_with (fail)
            refine (HAT.out (w2.drewN q3) hF3).mono ?_
            rintro e w4 ⟨rfl, hF4⟩
            have hF4' := hF3.then_new Up.new hF4
            have hBX4 := HBX.out.fresh hF4'
            clear hF3 hF4 HRD HAT
            have HBX4 := Lib.hid hBX4
            clear hBX4
            have hy0 := HBX4.out.cell 0
            have hy1 := HBX4.out.cell 1
            simp only [List.getElem?_toArray, List.getElem?_cons_zero, List.getElem?_cons_succ] at hy0 hy1
            have hz0 := HBX4.out.frozen 0
            have hz1 := HBX4.out.frozen 1
            have hbl := HBX4.out.lt
            have hB5 := (HBX4.out.set_ 0 (.string ⟨g1.toArray⟩)).set_ 1 (.string ⟨g2.toArray⟩)
            simp only [List.setIfInBounds_toArray, List.set_cons_zero, List.set_cons_succ] at hB5
            have hF5 : Frm (fun k => k = bx ∨ New w2 k) w2 ((w4.setCell ⟨bx, 0, none⟩ (.string ⟨g1.toArray⟩)).setCell ⟨bx, 1, none⟩ (.string ⟨g2.toArray⟩)) := ((hF4'.mono (fun k hk => .inr hk)).setCell (p := ⟨bx, 0, none⟩) (.inl rfl) _).setCell (p := ⟨bx, 1, none⟩) (.inl rfl) _
            have HB5 := Lib.hid hB5
            have HF5 := Lib.hid hF5
            have HF4' := Lib.hid hF4'
            clear hB5 hF5 hF4'
            go_upto_region 21 with (fail)
            clear hy0 hy1 hz0 hz1 hbl HBX4 HF4'
            generalize (w4.setCell ⟨bx, 0, none⟩ (.string ⟨g1.toArray⟩)).setCell ⟨bx, 1, none⟩ (.string ⟨g2.toArray⟩) = w5 at *
            go_wp2_with (fail)
            refine (HRL.out w5).mono ?_
            rintro e w6 ⟨rfl, hw6⟩
            rw [← hw6]
            clear hw6 w6
            go_wp2_with (fail)
            refine (HEN.out w5 HF5.out).mono ?_
            rintro e w6 ⟨rfl, hF6⟩
            have hF6' := HF5.out.trans (hF6.mono (fun k hk => .inr (Nat.le_trans HF5.out.size hk)))
            have hBX4 := HB5.out.fresh hF6
            clear hF6 HB5 HF5 HRL HEN
            have HBX4 := Lib.hid hBX4
            clear hBX4
            have hy0 := HBX4.out.cell 0
            have hy1 := HBX4.out.cell 1
            simp only [List.getElem?_toArray, List.getElem?_cons_zero, List.getElem?_cons_succ] at hy0 hy1
            have hz0 := HBX4.out.frozen 0
            have hz1 := HBX4.out.frozen 1
            have hbl := HBX4.out.lt
            have hB7 := (HBX4.out.set_ 0 (.string ⟨f1.toArray⟩)).set_ 1 (.string ⟨f2.toArray⟩)
            have hF7 : Frm (fun k => k = bx ∨ New w2 k) w2 ((w6.setCell ⟨bx, 0, none⟩ (.string ⟨f1.toArray⟩)).setCell ⟨bx, 1, none⟩ (.string ⟨f2.toArray⟩)) := (hF6'.setCell (p := ⟨bx, 0, none⟩) (.inl rfl) _).setCell (p := ⟨bx, 1, none⟩) (.inl rfl) _
            have HB7 := Lib.hid hB7
            have HF7 := Lib.hid hF7
            have HF6' := Lib.hid hF6'
            clear hB7 hF7 hF6'
            go_wp2_with (fail)
            go_meet
            exact ⟨n, true, f1, f2, rfl, rfl, rfl, Lib.hid ⟨pfx 128 6 (ct - 1 - xi), [], by simp only [List.append_nil]; rfl, HN.out, fun _ => ⟨rfl, rfl⟩, fun e => (by cases e)⟩, HB7, HF7⟩
        by_cases k2 : xk = 2
        · subst k2
          as_aux_lemma =>
            obtain ⟨fb, hfb, hln⟩ : ∃ fb, (fb = 112 ∨ fb = 80) ∧ lineN ct ⟨2, xi, (f1, f2)⟩ = pfx fb 4 xi ++ strc 128 0 7 f2 := by
              cases hs : secret f1 with
              | true => exact ⟨112, .inl rfl, by unfold lineN; simp [hs]⟩
              | false => exact ⟨80, .inr rfl, by unfold lineN; simp [hs]⟩
            have hbe : b = pfx fb 4 xi ++ (strc 128 0 7 f2 ++ r) := by rw [HB.out, hln, List.append_assoc]
            have a1 := rdp_pfx fb 4 xi (strc 128 0 7 f2 ++ r) (by omega) (by omega) (by omega)
            have a2 : hd8 / 16 = fb / 16 := by rw [HHD8.out, hbe]; exact pfx_headD fb 4 xi (strc 128 0 7 f2 ++ r) (by omega) (by omega)
            rw [← hbe] at a1
            obtain ⟨n, hn⟩ : ∃ n, n = (pfx fb 4 xi).length := ⟨_, rfl⟩
            rw [← hn] at a1
            obtain ⟨ea1, eb1⟩ : (bits .and .u8 (hd8 : Int) 128 == 0) = true ∧ (bits .and .u8 (hd8 : Int) 128 != 0) = false := mask_is (x := hd8) (m := 128) (b := true) HX8.out (.inl rfl) (decide_eq_true (by omega))
            obtain ⟨ea2, eb2⟩ : (bits .and .u8 (hd8 : Int) 64 == 0) = false ∧ (bits .and .u8 (hd8 : Int) 64 != 0) = true := mask_is (x := hd8) (m := 64) (b := false) HX8.out (.inr (.inl rfl)) (decide_eq_false (by omega))
            obtain ⟨ea3, eb3⟩ : (bits .and .u8 (hd8 : Int) 16 == 0) = false ∧ (bits .and .u8 (hd8 : Int) 16 != 0) = true := mask_is (x := hd8) (m := 16) (b := false) HX8.out (.inr (.inr (.inr rfl))) (decide_eq_false (by omega))
            have hrd : ∀ w', Frm (New w2) w2 w' → Calls Try.prog 62 #[.slice (some ⟨gb, off, none⟩) b.length c1, .int .i64 4] w' fun e w3 => e = .returned (.tuple #[.int .u64 (xi : Int), .int .i64 (n : Int), .int .i64 0]) ∧ ∃ q, w3 = w'.drewN q := fun w' fr => by
              have := rrdp_any b (some ⟨gb, off, none⟩) c1 4 w' (HR2.out.fresh fr) (by omega) (by omega) (by omega)
              rw [a1] at this
              exact this
            obtain ⟨⟨g1, g2⟩, hg, hgn⟩ := HX.out.k2 rfl
            simp only at hg hgn
            subst hgn
            have hat := fun w' (fr : Frm (New w2) w2 w') => rat_ok h3tab xi (g1, g2) (some ⟨gs, 0, none⟩) 99 w' (HST2.out.fresh fr) hg (by rw [h3_len.2.2]; omega)
            rw [h3_len.2.2] at hat
            simp only [fld, str] at hat
            have hst := strc_pos 128 0 7 f2
            clear a1 a2 hbe hg hfb
            generalize b.length = bn at *
            have HRD := Lib.hid hrd
            have HAT := Lib.hid hat
            have HN := Lib.hid hn
            have HLN := Lib.hid hln
            have HST := Lib.hid hst
            clear hrd hat hn hln hst
            go_wp2_with (fail)
            refine (HRD.out w2 (Frm.refl _ _)).mono ?_
            rintro e w3 ⟨rfl, q3, rfl⟩
            have hF3 : Frm (New w2) w2 (w2.drewN q3) := (Frm.refl _ _).drewN q3
            go_wp2_with (fail)
            refine (HAT.out (w2.drewN q3) hF3).mono ?_
            rintro e w4 ⟨rfl, hF4⟩
            have hF4' := hF3.then_new Up.new hF4
            have hBX4 := HBX.out.fresh hF4'
            clear hF3 hF4 HRD HAT
            have HBX4 := Lib.hid hBX4
            clear hBX4
            have hy0 := HBX4.out.cell 0
            have hy1 := HBX4.out.cell 1
            simp only [List.getElem?_toArray, List.getElem?_cons_zero, List.getElem?_cons_succ] at hy0 hy1
            have hz0 := HBX4.out.frozen 0
            have hz1 := HBX4.out.frozen 1
            have hbl := HBX4.out.lt
            have hB5 := (HBX4.out.set_ 0 (.string ⟨g1.toArray⟩)).set_ 1 (.string ⟨g2.toArray⟩)
            have hF5 : Frm (fun k => k = bx ∨ New w2 k) w2 ((w4.setCell ⟨bx, 0, none⟩ (.string ⟨g1.toArray⟩)).setCell ⟨bx, 1, none⟩ (.string ⟨g2.toArray⟩)) := ((hF4'.mono (fun k hk => .inr hk)).setCell (p := ⟨bx, 0, none⟩) (.inl rfl) _).setCell (p := ⟨bx, 1, none⟩) (.inl rfl) _
            have HB5 := Lib.hid hB5
            have HF5 := Lib.hid hF5
            have HF4' := Lib.hid hF4'
            clear hB5 hF5 hF4'
            go_wp2_with (fail)
            go_meet
            exact ⟨n, false, g1, g2, rfl, rfl, rfl, Lib.hid ⟨pfx fb 4 xi, strc 128 0 7 f2, HLN.out, HN.out, fun e => (by cases e), fun _ => ⟨rfl, rfl, by rw [HLN.out, List.length_append, HN.out]; have := HST.out; omega⟩⟩, HB5, HF5⟩
        · skip
          as_aux_lemma =>
            obtain ⟨u1, u0, hu, hln⟩ : ∃ u1 u0, (u1 = 56 ∧ u0 = 48 ∨ u1 = 40 ∧ u0 = 32) ∧ lineN ct ⟨xk, xi, (f1, f2)⟩ = strc u1 u0 3 f1 ++ strc 128 0 7 f2 := by
              unfold lineN
              simp only
              rw [if_neg k0, if_neg k1, if_neg k2]
              cases hs : secret f1 with
              | true => exact ⟨56, 48, .inl ⟨rfl, rfl⟩, rfl⟩
              | false => exact ⟨40, 32, .inr ⟨rfl, rfl⟩, rfl⟩
            have hbe : b = strc u1 u0 3 f1 ++ (strc 128 0 7 f2 ++ r) := by rw [HB.out, hln, List.append_assoc]
            have hxn := HX.out.n
            simp only at hxn
            have a1 := strD_strc2 u1 u0 3 (by omega) (by omega) (by omega) (by rcases hu with ⟨rfl, rfl⟩ | ⟨rfl, rfl⟩ <;> decide) (by rcases hu with ⟨rfl, rfl⟩ | ⟨rfl, rfl⟩ <;> decide) f1 (strc 128 0 7 f2 ++ r) hxn
            have a2 : 32 ≤ hd8 ∧ hd8 < 64 := by
              rw [HHD8.out, hbe]
              generalize strc 128 0 7 f2 ++ r = t
              unfold strc
              split
              · rw [List.append_assoc]
                have : ((pfx u1 3 (hlen f1) ++ (hcode f1 ++ t)).headD 0).toNat / 8 = u1 / 8 := pfx_headD u1 3 (hlen f1) _ (by omega) (by omega)
                omega
              · rw [List.append_assoc]
                have : ((pfx u0 3 f1.length ++ (f1 ++ t)).headD 0).toNat / 8 = u0 / 8 := pfx_headD u0 3 f1.length _ (by omega) (by omega)
                omega
            rw [← hbe] at a1
            obtain ⟨n, hn⟩ : ∃ n, n = (strc u1 u0 3 f1).length := ⟨_, rfl⟩
            rw [← hn] at a1
            obtain ⟨a3, a4⟩ := a2
            obtain ⟨ea1, eb1⟩ : (bits .and .u8 (hd8 : Int) 128 == 0) = true ∧ (bits .and .u8 (hd8 : Int) 128 != 0) = false := mask_is (x := hd8) (m := 128) (b := true) HX8.out (.inl rfl) (decide_eq_true (by omega))
            obtain ⟨ea2, eb2⟩ : (bits .and .u8 (hd8 : Int) 64 == 0) = true ∧ (bits .and .u8 (hd8 : Int) 64 != 0) = false := mask_is (x := hd8) (m := 64) (b := true) HX8.out (.inr (.inl rfl)) (decide_eq_true (by omega))
            obtain ⟨ea3, eb3⟩ : (bits .and .u8 (hd8 : Int) 32 == 0) = false ∧ (bits .and .u8 (hd8 : Int) 32 != 0) = true := mask_is (x := hd8) (m := 32) (b := false) HX8.out (.inr (.inr (.inl rfl))) (decide_eq_false (by omega))
            have hrd : ∀ w', Frm (New w2) w2 w' → Calls Try.prog 84 #[.slice (some ⟨gb, off, none⟩) b.length c1, .int .i64 3] w' fun e w3 => e = .returned (.tuple #[.string ⟨f1.toArray⟩, .int .i64 (n : Int), .int .i64 0]) ∧ Frm (New w') w' w3 := fun w' fr => by
              have := strbits3_any b (some ⟨gb, off, none⟩) c1 w' (HR2.out.fresh fr) hbl hc1
              rw [a1] at this
              exact this
            have hst := strc_pos 128 0 7 f2
            clear a1 a3 a4 hbe hu hxn
            generalize b.length = bn at *
            have HRD := Lib.hid hrd
            have HN := Lib.hid hn
            have HLN := Lib.hid hln
            have HST := Lib.hid hst
            clear hrd hn hln hst
            go_wp2_with (fail)
            refine (HRD.out w2 (Frm.refl _ _)).mono ?_
            rintro e w4 ⟨rfl, hF4'⟩
            have hBX4 := HBX.out.fresh hF4'
            clear HRD
            have HBX4 := Lib.hid hBX4
            clear hBX4
            have hy0 := HBX4.out.cell 0
            have hy1 := HBX4.out.cell 1
            simp only [List.getElem?_toArray, List.getElem?_cons_zero, List.getElem?_cons_succ] at hy0 hy1
            have hz0 := HBX4.out.frozen 0
            have hbl := HBX4.out.lt
            have hB5 := HBX4.out.set_ 0 (.string ⟨f1.toArray⟩)
            have hF5 : Frm (fun k => k = bx ∨ New w2 k) w2 (w4.setCell ⟨bx, 0, none⟩ (.string ⟨f1.toArray⟩)) := (hF4'.mono (fun k hk => .inr hk)).setCell (p := ⟨bx, 0, none⟩) (.inl rfl) _
            have HB5 := Lib.hid hB5
            have HF5 := Lib.hid hF5
            have HF4' := Lib.hid hF4'
            clear hB5 hF5 hF4'
            go_wp2_with (fail)
            go_meet
            exact ⟨n, false, f1, [], rfl, rfl, rfl, Lib.hid ⟨strc u1 u0 3 f1, strc 128 0 7 f2, HLN.out, HN.out, fun e => (by cases e), fun _ => ⟨rfl, rfl, by rw [HLN.out, List.length_append, HN.out]; have := HST.out; omega⟩⟩, HB5, HF5⟩
      case rest =>
        as_aux_lemma =>
          obtain ⟨k, wh, nm, vv, rfl, rfl, rfl, hP, hB3, hF3⟩ := hcut
          rename World => w3
          obtain ⟨p, q, hpq, hkp, hw1, hw2⟩ := hP.out
          have hbe : b = p ++ (q ++ r) := by rw [HB.out, hpq, List.append_assoc]
          have hdk : b.drop k = q ++ r := by rw [hbe, hkp, List.drop_left]
          have hlb : b.length = k + (q ++ r).length := by rw [hbe, hkp, List.length_append]
          have hkl : k ≤ b.length := by omega
          have hF03 : Frm (New w) w w3 := HF2.out.trans (hF3.out.mono (fun kk hk => by
            rcases hk with e | e
            · exact e ▸ hbw
            · exact Nat.le_trans HF2.out.size e))
          have hR3 := HR2.out.keep hF3.out (fun kk hk e => by
            cases hk
            rcases e with e | e
            · have e : gb = bx := e
              omega
            · have e : w2.heap.size ≤ gb := e
              omega)
          have hST3 := HST2.out.keep hF3.out (fun kk hk e => by
            cases hk
            rcases e with e | e
            · have e : gs = bx := e
              omega
            · have e : w2.heap.size ≤ gs := e
              omega)
          have hA3 := HA2.out.keep hF3.out (fun kk hk e => by
            have := (HNB.out kk hk).1
            rcases e with e | e
            · omega
            · have e : w2.heap.size ≤ kk := e
              omega)
          have hs3 := hF3.out.size
          obtain ⟨A4, hA4, hR4⟩ := hR3.from_ hc1 k
          rw [hdk] at hR4
          obtain ⟨n4, hn4⟩ : ∃ n4, n4 = b.length - k := ⟨_, rfl⟩
          obtain ⟨c4, hc4⟩ : ∃ c4, c4 = c1 - k := ⟨_, rfl⟩
          have hcut : ∀ (o : Oper) (a : Act) (w' : World) (x lo : Operand) (u : Int), o.op = .slice 23 x (some lo) none none → a.eval x = .slice (some ⟨gb, off, none⟩) b.length c1 → a.eval lo = .int .i64 u → u = (k : Int) → (execOp a.eval o).run Try.prog w' = .ok (.value (.slice A4 n4 c4)) w' := fun o a w' x lo u q1 q2 q3 q4 => by
            have := run_from (w := w') q1 q2 q3 q4 hkl
            rw [hA4, ← hn4, ← hc4] at this
            exact this
          have hA4l : ∀ kk, M.blk A4 = some kk → kk = gb := fun kk hk => by
            have hb4 : M.blk A4 = M.blk (some ⟨gb, off, none⟩) := by rw [← hA4]; have := cut_blk (A := some ⟨gb, off, none⟩) (c := c1) (i := k) (k := k); simpa using this
            rw [hb4] at hk
            have : gb = kk := by simpa [M.blk] using hk
            omega
          have hn4l : n4 = (q ++ r).length := by omega
          have hc4l : (q ++ r).length ≤ c4 := by omega
          have hqrl : (q ++ r).length ≤ 1099511627776 := by omega
          clear hR3 hbe hdk hpq hkp hP hA4
          have HR4 := Lib.hid hR4
          have HN4 := Lib.hid hn4
          have HC4 := Lib.hid hc4
          have HCUT := Lib.hid hcut
          have HA3 := Lib.hid hA3
          have HST3 := Lib.hid hST3
          have HF03 := Lib.hid hF03
          have HW1 := Lib.hid hw1
          have HW2 := Lib.hid hw2
          have HN4L := Lib.hid hn4l
          have HA4L := Lib.hid hA4l
          have HLB := Lib.hid hlb
          have HB3 := Lib.hid hB3
          have HF3 := Lib.hid hF3
          clear hR4 hn4 hc4 hcut hA3 hST3 hF03 hw1 hw2 hn4l hA4l hlb hB3 hF3
          go_upto_if 196 with (refine wpList_val rfl (.slice A4 n4 c4) (HCUT.out _ _ _ _ _ _ rfl rfl rfl rfl) ?_)
          go_cut [1, 40, 41, 42] from 197 to 209 (fun v1 v40 v41 v42 w' => ∃ (A5 : Option Addr) (c5 : Nat), v1 = .slice A5 r.length c5 ∧ r.length ≤ c5 ∧ Hid (Rd w' A5 (bvs r)) ∧ Hid (Blk w' bx 71 #[.string ⟨x.f.1.toArray⟩, .string ⟨x.f.2.toArray⟩]) ∧ Hid (Frm (fun k => k = bx ∨ New w3 k) w3 w') ∧ Hid (∀ kk, M.blk A5 = some kk → kk = gb))
          case first =>
            cases wh with
            | true =>
              obtain ⟨hq, hf⟩ := HW1.out rfl
              subst hq
              have hn5 : n4 = r.length := HN4L.out
              have HF := Lib.hid hf
              have HN5 := Lib.hid hn5
              clear hf hn5
              go_wp2
              go_meet
              exact ⟨A4, c4, by rw [HN5.out], hc4l, HR4, Lib.hid (by rw [← HF.out]; exact HB3.out.out), Lib.hid (Frm.refl _ _), HA4L⟩
            | false =>
              obtain ⟨hq, hnm, -⟩ := HW2.out rfl
              have hv := HX.out.v
              obtain ⟨xk, xi, f1, f2⟩ := x
              simp only at hq hnm hv
              have hsd := strD_strc f2 r hv
              rw [← hq] at hsd
              have hstr := strbits_any (q ++ r) A4 c4 w3 HR4.out hqrl hc4l
              rw [hsd] at hstr
              have hstr2 : Calls Try.prog 84 #[.slice A4 n4 c4, .int .i64 7] w3 fun e w4 => e = .returned (.tuple #[.string ⟨f2.toArray⟩, .int .i64 (q.length : Int), .int .i64 0]) ∧ Frm (New w3) w3 w4 := by rw [HN4L.out]; exact hstr
              have hnq : n4 = q.length + r.length := by rw [HN4L.out, List.length_append]
              clear hstr hsd hv
              have hBX4 := HB3.out.out
              have hbl3 := hBX4.lt
              have HSTR2 := Lib.hid hstr2
              have HQ := Lib.hid hq
              have HNM := Lib.hid hnm
              have HBX4 := Lib.hid hBX4
              have HNQ := Lib.hid hnq
              clear hstr2 hq hnm hBX4 hnq
              go_wp2_with (fail)
              refine HSTR2.out.mono ?_
              rintro e w4 ⟨rfl, hF4⟩
              have hBX5 := HBX4.out.fresh hF4
              have hy0 := hBX5.cell 0
              have hy1 := hBX5.cell 1
              simp only [List.getElem?_toArray, List.getElem?_cons_zero, List.getElem?_cons_succ] at hy0 hy1
              have hz1 := hBX5.frozen 1
              have hbl := hBX5.lt
              have hB6 := hBX5.set_ 1 (.string ⟨f2.toArray⟩)
              have hF6 : Frm (fun k => k = bx ∨ New w3 k) w3 (w4.setCell ⟨bx, 1, none⟩ (.string ⟨f2.toArray⟩)) := (hF4.mono (fun k hk => .inr hk)).setCell (p := ⟨bx, 1, none⟩) (.inl rfl) _
              have hA4l := HA4L.out
              have hR5 := HR4.out.keep hF6 (fun kk hk e => by
                have := hA4l kk hk
                rcases e with e | e
                · omega
                · have e : w3.heap.size ≤ kk := e
                  omega)
              obtain ⟨A6, hA6, hR6⟩ := hR5.from_ hc4l q.length
              rw [List.drop_left] at hR6
              obtain ⟨c6, hc6⟩ : ∃ c6, c6 = c4 - q.length := ⟨_, rfl⟩
              obtain ⟨ql, hql⟩ : ∃ ql, ql = q.length := ⟨_, rfl⟩
              have hcut6 : ∀ (o : Oper) (a : Act) (w' : World) (x lo : Operand) (u : Int), o.op = .slice 23 x (some lo) none none → a.eval x = .slice A4 n4 c4 → a.eval lo = .int .i64 u → u = (ql : Int) → (execOp a.eval o).run Try.prog w' = .ok (.value (.slice A6 r.length c6)) w' := fun o a w' x lo u q1 q2 q3 q4 => by
                have := run_from (w := w') q1 q2 q3 (by rw [q4, hql]) (by have := HNQ.out; omega)
                rw [hA6, ← hc6, show n4 - q.length = r.length by have := HNQ.out; omega] at this
                exact this
              have hrc6 : r.length ≤ c6 := by rw [List.length_append] at hc4l; omega
              have hA6l : ∀ kk, M.blk A6 = some kk → kk = gb := fun kk hk => by
                have hb6 : M.blk A6 = M.blk A4 := by rw [← hA6]; have := cut_blk (A := A4) (c := c4) (i := q.length) (k := q.length); simpa using this
                exact hA4l kk (hb6 ▸ hk)
              rw [← hql]
              clear hR5 hA6 hF4
              have HBX5 := Lib.hid hBX5
              have HB6 := Lib.hid hB6
              have HF6 := Lib.hid hF6
              have HR6 := Lib.hid hR6
              have HCUT6 := Lib.hid hcut6
              have HC6 := Lib.hid hc6
              have HQL := Lib.hid hql
              have HA6L := Lib.hid hA6l
              clear hBX5 hB6 hF6 hR6 hcut6 hc6 hql hA6l
              go_wp2_with (refine wpList_val rfl (.slice A6 r.length c6) (HCUT6.out _ _ _ _ _ _ rfl rfl rfl rfl) ?_)
              go_meet
              refine ⟨A6, c6, rfl, hrc6, HR6, Lib.hid ?_, HF6, HA6L⟩
              have := HB6.out
              rw [HNM.out] at this
              exact this
          case rest =>
            obtain ⟨A5, c5, rfl, hrc5, hR5, hB5, hF5, hA5l⟩ := hcut
            rename World => w5
            have hF05 : Frm (New w) w w5 := HF03.out.trans (hF5.out.mono (fun kk hk => by
              rcases hk with e | e
              · exact e ▸ hbw
              · exact Nat.le_trans HF03.out.size e))
            have hST5 := HST3.out.keep hF5.out (fun kk hk e => by
              cases hk
              rcases e with e | e
              · have e : gs = bx := e
                omega
              · have e : w3.heap.size ≤ gs := e
                omega)
            have hnb5 : ∀ kk, M.blk A11 = some kk → kk < w5.heap.size := fun kk hk => by have := (HNB.out kk hk).1; have := hF5.out.size; omega
            have hA5 := HA3.out.keep hF5.out (fun kk hk e => by
              have := (HNB.out kk hk).1
              rcases e with e | e
              · omega
              · have e : w3.heap.size ≤ kk := e
                omega)
            clear HA3 HST3 HF03 HB3 HF3 HR4 HCUT
            obtain ⟨xk, xi, f1, f2⟩ := x
            simp only at hB5
            have hb5 := hB5.out
            have hy0 := hb5.cell 0
            have hy1 := hb5.cell 1
            simp only [List.getElem?_toArray, List.getElem?_cons_zero, List.getElem?_cons_succ] at hy0 hy1
            have hbl5 := hb5.lt
            have HF05 := Lib.hid hF05
            have HST5 := Lib.hid hST5
            have HA5 := Lib.hid hA5
            have HB5 := Lib.hid hb5
            clear hF05 hST5 hA5 hb5
            go_wp2_with (refine wpList_append flds rfl rfl rfl (HA5.out.alloc _) (fun k hk => Nat.le_trans HF05.out.size (Nat.le_trans (by simp) hk)) rfl (Rd.new _ #[.string ⟨f1.toArray⟩, .string ⟨f2.toArray⟩] _) rfl (fun u hu => by simp at hu; rcases hu with rfl | rfl <;> rfl) (by omega) ?_; intro A9 c9 w9 hA9 hF9 hk9 hW9)
            replace hF9 : Frm (New w) w w9 := HF05.out.trans (Frm.trans ((Frm.refl (New w) w5).alloc (fun k hk => Nat.le_trans HF05.out.size hk) _) hF9)
            have hA9' : App (New w) w9 71 2 A9 (j + 1) c9 (fvs ((ls.take (j + 1)).map (·.f))) := by
              rw [HTK.out, fvs_append]
              exact hA9
            have hf9 : Frm (fun k => New w5 k ∨ M.blk A11 = some k) w5 w9 := ((Frm.refl _ w5).alloc (fun k hk => .inl hk) _).trans (hW9.mono (fun k hk => by
              rcases hk with e | e
              · exact .inl (Nat.le_trans (by simp) e)
              · exact .inr e.2))
            have hA9l := app_lt hA9' (by intro e; have := congrArg List.length e; rw [fvs_length] at this; simp at this; omega)
            have hgs5 : gs < w5.heap.size := by have := hF5.out.size; omega
            have hST9 := HST5.out.keep hf9 (fun kk hk e => by
              cases hk
              rcases e with e | e
              · have e : w5.heap.size ≤ gs := e
                omega
              · exact (HNB.out gs e).2 rfl)
            have hR9 := hR5.out.keep hf9 (fun kk hk e => by
              have h1 := hA5l.out kk hk
              rcases e with e | e
              · have e : w5.heap.size ≤ kk := e
                have := hF5.out.size
                omega
              · have h2 : w.heap.size ≤ kk := HA5.out.inM kk e
                omega)
            have hnb9 : ∀ kk, M.blk A9 = some kk → kk < w9.heap.size ∧ kk ≠ gs := fun kk hk => by
              refine ⟨hA9l kk hk, ?_⟩
              rcases hk9 with e | e
              · exact (HNB.out kk (e.1 ▸ hk)).2
              · rw [e.1] at hk
                have hk2 := Option.some.inj hk
                intro e2
                have : w5.heap.size ≤ (w5.alloc (.cells #[.string ⟨f1.toArray⟩, .string ⟨f2.toArray⟩] 71)).heap.size := by simp
                omega
            have hgb9 : ∀ kk, M.blk A5 = some kk → kk < w.heap.size := fun kk hk => by have := hA5l.out kk hk; omega
            rw [HR.out] at hR9 hrc5 ⊢
            have hbl9 : (linesN ct (ls.drop (j + 1))).length ≤ 1099511627776 := by
              have h1 := HN4L.out
              rw [List.length_append, HR.out] at hqrl
              omega
            clear hA9 hf9 hW9 hk9 hA9l
            have HR9 := Lib.hid hR9
            have HA9' := Lib.hid hA9'
            have HF9 := Lib.hid hF9
            have HST9 := Lib.hid hST9
            have HNB9 := Lib.hid hnb9
            have HGB9 := Lib.hid hgb9
            clear hR9 hA9' hF9 hST9 hnb9 hgb9
            go_roundg (gk - 1)
            case measure => omega
            case rel => exact ⟨j + 1, A5, c5, A9, c9, by omega, rfl, by rfl, hrc5, hbl9, HR9, HA9', HF9, HST9, HNB9, Lib.hid (fun _ => HGB9.out)⟩
    · obtain rfl : j = ls.length := by omega
      have hln : (linesN ct (ls.drop ls.length)).length = 0 := by rw [List.drop_length]; rfl
      rw [hln]
      rw [List.take_length] at hA11
      have HRX := Lib.hid hR1
      have HLN := Lib.hid hln
      clear hR1 hln
      go_wp2
      refine bodyPost_ret (results_tmp2 rfl _ _ _) rfl ?_
      exact ⟨A11, c11, rfl, hA11.out.cap, hA11.out.rd, hF.out, fun kk hk => ⟨hA11.out.inM kk hk, (hnb0.out kk hk).1⟩⟩
end Go.Proofs.Ytdgggjeiflllhaa.M
namespace Go.Proofs.Ytdgggjeiflllhaa.M
open Go.ChangeShapes Go.WideShapes Go.ChangeAt Go.RowKit

/-- what Decode leaves -/
def RqD (X : Nat → Prop) (w : World) (pd g : Nat) (S : Nat → Prop) (Ar : Option Addr) (cr : Nat) (l : List Fld) (D : Qd) (e : Ending) (w' : World) : Prop :=
  ∃ (A : Option Addr) (c : Nat) (X' : Nat → Prop) (Ao : Option Addr) (co : Nat), e = .returned (.tuple #[.slice A l.length c, .int .i64 0]) ∧ l.length ≤ c ∧ Rd w' A (fvs l) ∧ RqM X' w' pd g S Ar cr [] Ao co D ∧ Frm (Own X w) w w' ∧ ∀ k, X' k → Own X w k
set_option maxRecDepth 100000 in
set_option maxHeartbeats 8000000 in
theorem rqdecode_ok {X S : Nat → Prop} {w : World} {pd g cr co : Nat} {Ar Ao : Option Addr} {D : Qd} (h : RqM X w pd g S Ar cr [] Ao co D) (s : Nat) (hs : s ≤ 18446744073709551615) (count : Nat) (ls : List Lq) (A : Option Addr) (c : Nat) (hR : Rd w A (bvs (prefQ count count D.lim ++ linesN count ls))) (hl : (prefQ count count D.lim ++ linesN count ls).length ≤ 1073741824) (hc : (prefQ count count D.lim ++ linesN count ls).length ≤ c)
    (h0 : count ≤ D.t.n) (h2 : 0 < count → D.t.n < count + mostQ D.lim ∧ 0 < mostQ D.lim) (hok : ∀ x ∈ ls, LineOk D.t count x) (h64 : ls.length ≤ 64) (ho : D.out.length ≤ 1073741824) :
    Calls Try.prog 16 #[.pointer (some ⟨pd, 0, none⟩), .int .u64 (s : Int), .slice A (prefQ count count D.lim ++ linesN count ls).length c] w
      (RqD X w pd g S Ar cr (ls.map (·.f)) { D with out := if 0 < count then D.out ++ pfx 128 7 s else D.out, told := if 0 < count then max D.told count else D.told }) := by
  obtain ⟨o2, ho2⟩ : ∃ o2, o2 = (if 0 < count then D.out ++ pfx 128 7 s else D.out) := ⟨_, rfl⟩
  obtain ⟨t2, ht2⟩ : ∃ t2, t2 = (if 0 < count then max D.told count else D.told) := ⟨_, rfl⟩
  rw [← ho2, ← ht2]
  have hnb := h.nb
  have hlim := h.lim
  have hb := h.blk
  have hy4 := hb.cell 4
  simp only [List.getElem?_toArray, List.getElem?_cons_zero, List.getElem?_cons_succ] at hy4
  have hpl := hb.lt
  have hpx := pfx_length 128 7 s
  have hpp := pfx_ne 128 7 s
  have hct : count ≤ 1152921504606846976 := by omega
  have hrp : ∀ w', Frm (New w) w w' → Calls Try.prog 48 #[.slice A (prefQ count count D.lim ++ linesN count ls).length c, .int .u64 (D.t.n : Int), .int .i64 (D.lim : Int)] w' fun e w' => e = .returned (.tuple #[.int .u64 (count : Int), .int .u64 (count : Int), .int .i64 ((prefQ count count D.lim).length : Int), .int .i64 0]) ∧ Frm (New w) w w' := fun w' fr => by
    refine (rqrpf_ok count D.t.n D.lim (linesN count ls) A c w' (hR.fresh fr) (by omega) hc hlim hnb (by omega) (fun e => (h2 e).1) (fun e => (h2 e).2)).mono ?_
    rintro e w2 ⟨he, n, rfl⟩
    exact ⟨he, fr.drewN n⟩
  obtain ⟨A2, hA2, hR2⟩ := hR.from_ hc (prefQ count count D.lim).length
  rw [List.drop_left] at hR2
  have hlen : (prefQ count count D.lim ++ linesN count ls).length = (prefQ count count D.lim).length + (linesN count ls).length := List.length_append ..
  obtain ⟨k, hk⟩ : ∃ k, k = (prefQ count count D.lim).length := ⟨_, rfl⟩
  rw [← hk] at hrp hA2 hlen
  generalize prefQ count count D.lim ++ linesN count ls = b at *
  obtain ⟨c2, hc2⟩ : ∃ c2, c2 = c - k := ⟨_, rfl⟩
  obtain ⟨ln, hln⟩ : ∃ ln, ln = (linesN count ls).length := ⟨_, rfl⟩
  have hcut : ∀ (o : Oper) (a : Act) (w' : World) (x lo : Operand) (u : Int), o.op = .slice 23 x (some lo) none none → a.eval x = .slice A b.length c → a.eval lo = .int .i64 u → u = (k : Int) → (execOp a.eval o).run Try.prog w' = .ok (.value (.slice A2 ln c2)) w' := fun o a w' x lo u q1 q2 q3 q4 => by
    have := run_from (w := w') q1 q2 q3 q4 (by omega)
    rw [hA2, ← hc2, show b.length - k = ln by omega] at this
    exact this
  have hli : ∀ w', Frm (New w) w w' → Calls Try.prog 51 #[.pointer (some ⟨pd, 0, none⟩), .slice A2 ln c2, .int .u64 (count : Int), .int .u64 (count : Int)] w' fun e w2 => ∃ (A2 : Option Addr) (c2 : Nat), e = .returned (.tuple #[.slice A2 ls.length c2, .int .i64 0]) ∧ ls.length ≤ c2 ∧ Rd w2 A2 (fvs (ls.map (·.f))) ∧ Frm (New w') w' w2 ∧ ∀ kk, M.blk A2 = some kk → w'.heap.size ≤ kk ∧ kk < w2.heap.size := fun w' fr => by
    have := rqlines_ok (S := S) (g := g) (pd := pd) (T := D.t) ls count A2 c2 w' (hR2.fresh fr) (by omega) (by omega) ((h.fresh fr).blk.cell 0) (h.fresh fr).tab hok h64 hct
    rw [← hln] at this
    exact this
  have hll : (ls.map (·.f)).length = ls.length := List.length_map ..
  have hti : ¬ (D.t.n : Int) < (count : Int) := by omega
  have hsw : ∀ w', Frm (New w) w w' → w'.cell? ⟨pd, 0, none⟩ = some (.pointer (some ⟨g, 0, none⟩)) ∧ w'.cell? ⟨pd, 1, none⟩ = some (.int .i64 (D.lim : Int)) ∧ w'.cell? ⟨g, 2, none⟩ = some (.int .u64 (D.t.n : Int)) ∧ pd < w'.heap.size ∧ g < w'.heap.size := fun w' fr => by
    have h' := h.fresh fr
    have t := tab_cap h'.tab
    exact ⟨h'.blk.cell 0, h'.blk.cell 1, t.2.1, h'.blk.lt, t.2.2⟩
  have hS0 := hsw w.drew ((Frm.refl _ _).drew)
  clear h0 h2 hok hR hR2 hc hA2 h64
  have H := Lib.hid h
  have HB := Lib.hid hb
  have HRP := Lib.hid hrp
  have HCUT := Lib.hid hcut
  have HLI := Lib.hid hli
  have HK := Lib.hid hk
  have HLEN := Lib.hid hlen
  have HC2 := Lib.hid hc2
  have HLN := Lib.hid hln
  have HSW := Lib.hid hsw
  have HLL := Lib.hid hll
  have HL := Lib.hid hl
  have HO2 := Lib.hid ho2
  have HT2 := Lib.hid ht2
  clear h hb hrp hcut hli hk hlen hc2 hln hsw hll hl ho2 ht2
  go_enter Try.func16, Try.ntmps16
  go_upto_region 3 with (fail)
  clear hy4 hpl
  refine wp_region_held (by kernel_rfl) (S := fun w' => w'.cell? ⟨pd, 0, none⟩ = some (.pointer (some ⟨g, 0, none⟩)) ∧ w'.cell? ⟨pd, 1, none⟩ = some (.int .i64 (D.lim : Int)) ∧ w'.cell? ⟨g, 2, none⟩ = some (.int .u64 (D.t.n : Int)) ∧ pd < w'.heap.size ∧ g < w'.heap.size) ?_
  change wpAnyH _ _ _ _ _ _ _ _ w.drew
  refine wpAnyH_takeB (i := 0) (v := ?_) (d := some 18) rfl (by rfl) (by kernel_rfl) (fun _ _ _ h => h) (by rfl) hS0 (fun w hSw => ?_) ?_
  rotate_left
  · (try dsimp only at hSw); (try subst hSw); go_simp; first | done | (with_reducible rfl)
  simp only [Act.put, List.setIfInBounds_toArray, List.set_cons_zero, List.set_cons_succ]
  refine wpAnyH_takeB (i := 1) (v := ?_) (d := some 19) rfl (by rfl) (by kernel_rfl) (fun _ _ _ h => h) (by rfl) hS0 (fun w hSw => ?_) ?_
  rotate_left
  · (try dsimp only at hSw); (try subst hSw); go_simp; first | done | (with_reducible rfl)
  simp only [Act.put, List.setIfInBounds_toArray, List.set_cons_zero, List.set_cons_succ]
  refine wpAnyH_takeB (i := 2) (v := ?_) (d := some 20) rfl (by rfl) (by kernel_rfl) (fun _ _ _ h => h) (by rfl) hS0 (fun w hSw => ?_) ?_
  rotate_left
  · (try dsimp only at hSw); (try subst hSw); go_simp; first | done | (with_reducible rfl)
  simp only [Act.put, List.setIfInBounds_toArray, List.set_cons_zero, List.set_cons_succ]
  refine wpAnyH_takeB (i := 3) (v := ?_) (d := some 21) rfl (by rfl) (by kernel_rfl) (fun _ _ _ h => h) (by rfl) hS0 (fun w hSw => ?_) ?_
  rotate_left
  · (try dsimp only at hSw); (try subst hSw); go_simp; first | done | (with_reducible rfl)
  simp only [Act.put, List.setIfInBounds_toArray, List.set_cons_zero, List.set_cons_succ]
  refine wpAnyH_takeB (i := 4) (v := ?_) (d := some 22) rfl (by rfl) (by kernel_rfl) (fun _ _ _ h => h) (by rfl) hS0 (fun w hSw => ?_) ?_
  rotate_left
  · (try dsimp only at hSw); (try subst hSw); go_simp; first | done | (with_reducible rfl)
  simp only [Act.put, List.setIfInBounds_toArray, List.set_cons_zero, List.set_cons_succ]
  refine wpAnyH_takeB (i := 5) (v := ?_) (d := some 23) rfl (by rfl) (by kernel_rfl) (fun _ _ _ h => h) (by rfl) hS0 (fun w hSw => ?_) ?_
  rotate_left
  · (try dsimp only at hSw); (try subst hSw); go_simp; first | done | (with_reducible rfl)
  simp only [Act.put, List.setIfInBounds_toArray, List.set_cons_zero, List.set_cons_succ]
  refine wpAnyH_takeB (i := 6) (v := ?_) (d := some 24) rfl (by rfl) (by kernel_rfl) (fun _ _ _ h => h) (by rfl) hS0 (fun w hSw => ?_) ?_
  rotate_left
  · (try dsimp only at hSw); (try subst hSw); go_simp; first | done | (with_reducible rfl)
  simp only [Act.put, List.setIfInBounds_toArray, List.set_cons_zero, List.set_cons_succ]
  refine wpAnyH_takeB (i := 7) (v := ?_) (d := some 25) rfl (by rfl) (by kernel_rfl) (fun _ _ _ h => h) (by rfl) hS0 (fun w hSw => ?_) ?_
  rotate_left
  · (try dsimp only at hSw); (try subst hSw); go_simp; first | done | (with_reducible rfl)
  simp only [Act.put, List.setIfInBounds_toArray, List.set_cons_zero, List.set_cons_succ]
  refine wpAnyH_takeB (i := 8) (v := ?_) (d := some 26) rfl (by rfl) (by kernel_rfl) (fun _ _ _ h => h) (by rfl) hS0 (fun w hSw => ?_) ?_
  rotate_left
  · (try dsimp only at hSw); (try subst hSw); go_simp; first | done | (with_reducible rfl)
  simp only [Act.put, List.setIfInBounds_toArray, List.set_cons_zero, List.set_cons_succ]
  refine wpAnyH_takeB (i := 9) (v := ?_) (d := some 27) rfl (by rfl) (by kernel_rfl) (fun _ _ _ h => h) (by rfl) hS0 (fun w hSw => ?_) ?_
  rotate_left
  · (try dsimp only at hSw); (try subst hSw); go_simp; first | done | (with_reducible rfl)
  simp only [Act.put, List.setIfInBounds_toArray, List.set_cons_zero, List.set_cons_succ]
  refine wpAnyH_takeB (i := 10) (v := ?_) (d := some 28) rfl (by rfl) (by kernel_rfl) (fun _ _ _ h => h) (by rfl) hS0 (fun w hSw => ?_) ?_
  rotate_left
  · (try dsimp only at hSw); (try subst hSw); go_simp; first | done | (with_reducible rfl)
  simp only [Act.put, List.setIfInBounds_toArray, List.set_cons_zero, List.set_cons_succ]
  refine wpAnyH_takeB (i := 11) (v := ?_) (d := some 29) rfl (by rfl) (by kernel_rfl) (fun _ _ _ h => h) (by rfl) hS0 (fun w hSw => ?_) ?_
  rotate_left
  · (try dsimp only at hSw); (try subst hSw); go_simp; first | done | (with_reducible rfl)
  simp only [Act.put, List.setIfInBounds_toArray, List.set_cons_zero, List.set_cons_succ]
  refine wpAnyH_oneB (i := 12) rfl (by kernel_rfl) (fun K hKK => ?_)
  refine Eq.mpr (if_pos (by rfl)) ?_
  go_wp2_with (fail)
  refine (HRP.out w.drew ((Frm.refl _ _).drew)).mono ?_
  rintro e w2 ⟨rfl, hF2⟩
  have hS2 := HSW.out w2 hF2
  refine hKK.out _ _ hS2 ?_
  clear hKK K hS0
  try simp only [Act.put, List.setIfInBounds_toArray, List.set_cons_zero, List.set_cons_succ]
  refine wpAnyH_takeB (i := 13) (v := ?_) (d := some 17) rfl (by rfl) (by kernel_rfl) (fun _ _ _ h => h) (by rfl) hS2 (fun w hSw => ?_) ?_
  rotate_left
  · (try dsimp only at hSw); (try subst hSw); go_simp; first | done | (with_reducible rfl)
  simp only [Act.put, List.setIfInBounds_toArray, List.set_cons_zero, List.set_cons_succ]
  refine wpAnyH_takeB (i := 14) (v := ?_) (d := some 31) rfl (by rfl) (by kernel_rfl) (fun _ _ _ h => h) (by rfl) hS2 (fun w hSw => ?_) ?_
  rotate_left
  · (try dsimp only at hSw); (try subst hSw); go_simp; first | done | (with_reducible rfl)
  simp only [Act.put, List.setIfInBounds_toArray, List.set_cons_zero, List.set_cons_succ]
  refine wpAnyH_takeB (i := 15) (v := ?_) (d := some 32) rfl (by rfl) (by kernel_rfl) (fun _ _ _ h => h) (by rfl) hS2 (fun w hSw => ?_) ?_
  rotate_left
  · (try dsimp only at hSw); (try subst hSw); go_simp; first | done | (with_reducible rfl)
  simp only [Act.put, List.setIfInBounds_toArray, List.set_cons_zero, List.set_cons_succ]
  refine wpAnyH_takeB (i := 16) (v := ?_) (d := some 33) rfl (by rfl) (by kernel_rfl) (fun _ _ _ h => h) (by rfl) hS2 (fun w hSw => ?_) ?_
  rotate_left
  · (try dsimp only at hSw); (try subst hSw); go_simp; first | done | (with_reducible rfl)
  simp only [Act.put, List.setIfInBounds_toArray, List.set_cons_zero, List.set_cons_succ]
  refine wpAnyH_takeB (i := 17) (v := ?_) (d := some 34) rfl (by rfl) (by kernel_rfl) (fun _ _ _ h => h) (by rfl) hS2 (fun w hSw => ?_) ?_
  rotate_left
  · (try dsimp only at hSw); (try subst hSw); go_simp; first | done | (with_reducible rfl)
  simp only [Act.put, List.setIfInBounds_toArray, List.set_cons_zero, List.set_cons_succ]
  refine wpAnyH_oneB (i := 18) rfl (by kernel_rfl) (fun K hK => ?_)
  refine Eq.mpr (if_pos (by rfl)) ?_
  go_simp
  refine hK.out _ _ (hS2) ?_
  clear hK K
  try simp only [Act.put, List.setIfInBounds_toArray, List.set_cons_zero, List.set_cons_succ]
  refine wpAnyH_oneB (i := 19) rfl (by kernel_rfl) (fun K hK => ?_)
  refine Eq.mpr (if_pos (by rfl)) ?_
  go_simp
  refine hK.out _ _ (hS2) ?_
  clear hK K
  try simp only [Act.put, List.setIfInBounds_toArray, List.set_cons_zero, List.set_cons_succ]
  refine wpAnyH_oneB (i := 20) rfl (by kernel_rfl) (fun K hK => ?_)
  refine Eq.mpr (if_pos (by rfl)) ?_
  go_simp
  refine hK.out _ _ (hS2) ?_
  clear hK K
  try simp only [Act.put, List.setIfInBounds_toArray, List.set_cons_zero, List.set_cons_succ]
  refine wpAnyH_oneB (i := 21) rfl (by kernel_rfl) (fun K hK => ?_)
  refine Eq.mpr (if_pos (by rfl)) ?_
  go_simp
  refine hK.out _ _ (hS2) ?_
  clear hK K
  try simp only [Act.put, List.setIfInBounds_toArray, List.set_cons_zero, List.set_cons_succ]
  refine wpAnyH_done (by kernel_rfl) ?_ _
  have hQ2 := H.out.fresh hF2
  obtain ⟨hy0, hy1, hg2, hpl, hgl⟩ := hS2
  have hfg := rqforget_nil (w := w2) (pd := pd) s (hQ2.blk.cell 5)
  have HF2 := Lib.hid hF2
  have HQ2 := Lib.hid hQ2
  have HFG := Lib.hid hfg
  clear hF2 hQ2 hfg
  go_wp2_with (fail)
  refine HFG.out.mono ?_
  rintro e w3 ⟨rfl, hw3⟩
  rw [hw3]
  clear hw3 w3 HFG
  go_wp2_with (refine wpList_val rfl (.slice A2 ln c2) (HCUT.out _ _ _ _ _ _ rfl rfl rfl rfl) ?_)
  refine (HLI.out w2 HF2.out).mono ?_
  rintro e w4 ⟨A4, c4, rfl, hc4, hR4, hF4, hA4n⟩
  have hF04 := HF2.out.then_new Up.new hF4
  have hQ4 := HQ2.out.fresh hF4
  have hlow2 : ∀ k, X k → k < w2.heap.size := HQ2.out.low
  have HLOW2 := Lib.hid hlow2
  clear hlow2
  clear hy0 hy1 hg2 hpl hgl HQ2 HF2 hF4
  by_cases hz : 0 < count
  · have hzi : (0 : Int) < (count : Int) := by omega
    have ho2 : o2 = D.out ++ pfx 128 7 s := by rw [HO2.out, if_pos hz]
    have ht2 : t2 = max D.told count := by rw [HT2.out, if_pos hz]
    have hb4 := hQ4.blk
    have hy6 := hb4.cell 6
    have hy7 := hb4.cell 7
    simp only [List.getElem?_toArray, List.getElem?_cons_zero, List.getElem?_cons_succ] at hy6 hy7
    have hz6 := hb4.frozen 6
    have hpl := hb4.lt
    have hp := rprefix_nat (fun k => M.blk Ao = some k ∨ New w4 k) D.out Ao co 128 7 s w4 (fun k hk => .inr hk) hQ4.out.tight (by omega) (by decide) (by decide) (by decide) hs
    rw [← ho2] at hp
    have ho2l : o2.length ≤ 1099511627776 := by rw [ho2, List.length_append]; omega
    have ho2n : o2 ≠ [] := fun e => by rw [ho2] at e; have := congrArg List.length e; rw [List.length_append] at this; have hp0 := pfx_pos 128 7 s; simp only [List.length_nil] at this; omega
    have HF04 := Lib.hid hF04
    have HR4 := Lib.hid hR4
    have HQ4 := Lib.hid hQ4
    have HB4 := Lib.hid hb4
    have HP := Lib.hid hp
    have HO3 := Lib.hid ho2
    have HT3 := Lib.hid ht2
    clear hF04 hR4 hQ4 hb4 hp ho2 ht2
    go_upto_region 17 with (fail)
    go_wp2_with (fail)
    refine HP.out.mono ?_
    rintro e w5 ⟨A5, c5, rfl, hA5, hF5⟩
    have hF05 : Frm (Own X w) w w5 := (HF04.out.mono (fun k hk => .inr hk)).trans (hF5.mono (fun k hk => by
      rcases hk with e | e
      · exact .inl (HQ4.out.ro k e).1
      · exact .inr (Nat.le_trans HF04.out.size e)))
    have hA5l := app_lt hA5 (by cases o2 with | nil => exact absurd rfl ho2n | cons x t => simp [bvs])
    have hQ6 := HQ4.out.seto hA5 hF5 (fun _ _ => rfl) ho2l hA5l
    have hA5o : ∀ k, M.blk A5 = some k → Own X w k := fun k hk => by
      rcases hA5.inM k hk with e | e
      · exact .inl (HQ4.out.ro k e).1
      · exact .inr (Nat.le_trans HF04.out.size e)
    have hnp : ¬ (M.blk Ao = some pd ∨ New w4 pd) := fun e => by
      rcases e with e | e
      · exact (HQ4.out.ro pd e).2.2 rfl
      · have := HQ4.out.low pd HQ4.out.xp; unfold New at e; omega
    have hb5 := HB4.out.keep hF5 hnp
    clear hy6 hy7 hz6 hpl
    have hy6 := hb5.cell 6
    simp only [List.getElem?_toArray, List.getElem?_cons_zero, List.getElem?_cons_succ] at hy6
    have hz6 := hb5.frozen 6
    have hpl := hb5.lt
    have hlo4 : ∀ k, X k → k < w2.heap.size := HLOW2.out
    have hR5 := HR4.out.keep hF5 (fun k hk e => by
      have h1 := hA4n k hk
      rcases e with e | e
      · have := hlo4 k (HQ4.out.ro k e).1; omega
      · have e : w4.heap.size ≤ k := e
        omega)
    have hR6 := hR5.keep ((Frm.refl (fun k => k = pd) w5).setCell (p := ⟨pd, 6, none⟩) rfl (.slice A5 o2.length c5)) (fun k hk e => by
      have h1 := hA4n k hk
      have := hlo4 pd HQ4.out.xp
      omega)
    have hF06 : Frm (Own X w) w (w5.setCell ⟨pd, 6, none⟩ (.slice A5 o2.length c5)) := hF05.setCell (p := ⟨pd, 6, none⟩) (.inl HQ4.out.xp) _
    clear hA5 hF5 HB4 hR5 hF05
    have HF06 := Lib.hid hF06
    have HQ6 := Lib.hid hQ6
    have HA5O := Lib.hid hA5o
    have HB5 := Lib.hid hb5
    have HR6 := Lib.hid hR6
    clear hF06 hQ6 hA5o hb5 hR6
    go_upto_region 18 with (fail)
    clear hy6 hz6 hpl HB5
    generalize w5.setCell ⟨pd, 6, none⟩ (.slice A5 o2.length c5) = w6 at *
    have hb6 := HQ6.out.blk
    have hy7 := hb6.cell 7
    simp only [List.getElem?_toArray, List.getElem?_cons_zero, List.getElem?_cons_succ] at hy7
    have hz7 := hb6.frozen 7
    have hpl := hb6.lt
    have hQ7 := HQ6.out.settold t2 (by have := HT3.out; have := HQ4.out.tl; omega)
    have hR7 := HR6.out.keep ((Frm.refl (fun k => k = pd) w6).setCell (p := ⟨pd, 7, none⟩) rfl (.int .u64 (t2 : Int))) (fun k hk e => by
      have h1 := hA4n k hk
      have := HLOW2.out pd HQ4.out.xp
      omega)
    have hF7 : Frm (Own X w) w (w6.setCell ⟨pd, 7, none⟩ (.int .u64 (t2 : Int))) := HF06.out.setCell (p := ⟨pd, 7, none⟩) (.inl HQ4.out.xp) _
    by_cases hm : D.told < count
    · have hmi : (D.told : Int) < (count : Int) := by omega
      have hmj : ¬ (count : Int) ≤ (D.told : Int) := by omega
      have h2e : t2 = count := by have := HT3.out; omega
      subst h2e
      have HB6 := Lib.hid hb6
      have HQ7 := Lib.hid hQ7
      have HR7 := Lib.hid hR7
      have HF7 := Lib.hid hF7
      clear hb6 hQ7 hR7 hF7
      go_wp2
      refine bodyPost_ret (results_tmp2 rfl _ _ _) rfl ?_
      exact ⟨A4, c4, _, A5, c5, by rw [HLL.out]; rfl, by rw [HLL.out]; exact hc4, HR7.out, HQ7.out, HF7.out, fun k hk => by
        rcases hk with hk | hk
        · exact .inl hk
        · exact HA5O.out k hk⟩
    · have hmi : ¬ (D.told : Int) < (count : Int) := by omega
      have hmj : (count : Int) ≤ (D.told : Int) := by omega
      have h2e : t2 = D.told := by have := HT3.out; omega
      subst h2e
      have HB6 := Lib.hid hb6
      have HQ7 := Lib.hid hQ7
      have HR7 := Lib.hid hR7
      have HF7 := Lib.hid hF7
      clear hb6 hQ7 hR7 hF7
      go_wp2
      refine bodyPost_ret (results_tmp2 rfl _ _ _) rfl ?_
      exact ⟨A4, c4, _, A5, c5, by rw [HLL.out]; rfl, by rw [HLL.out]; exact hc4, HR7.out, HQ7.out, HF7.out, fun k hk => by
        rcases hk with hk | hk
        · exact .inl hk
        · exact HA5O.out k hk⟩
  · have hzi : ¬ (0 : Int) < (count : Int) := by omega
    have ho2 : o2 = D.out := by rw [HO2.out, if_neg hz]
    have ht2 : t2 = D.told := by rw [HT2.out, if_neg hz]
    subst ho2 ht2
    have HF04 := Lib.hid hF04
    have HR4 := Lib.hid hR4
    have HQ4 := Lib.hid hQ4
    clear hF04 hR4 hQ4
    go_wp2
    refine bodyPost_ret (results_tmp2 rfl _ _ _) rfl ?_
    exact ⟨A4, c4, X, Ao, co, by rw [HLL.out]; rfl, by rw [HLL.out]; exact hc4, HR4.out, by simpa using HQ4.out, HF04.out.mono (fun k hk => .inr hk), fun k hk => .inl hk⟩
end Go.Proofs.Ytdgggjeiflllhaa.M
