/- bifoldref26.shape: what it leaves. At most 64 fields, at most 4 names, each once; the sizes below 2^62. -/
import Derived.BigQuiet
import Derived.Deep.CutBlock
import Derived.Lib.Hide
import Derived.IntWalk
import Derived.Test.YtpojejdddgdjdaaGreatDoorSss
namespace Go.Proofs.YtpojejdddgdjdaaGreatDoor.M
open Go.ChangeShapes Go.WideShapes Go.ChangeAt Go.RowKit

set_option maxRecDepth 100000 in
set_option maxHeartbeats 4000000 in
theorem shape_any (names : List Bytes) (AN : Option Addr) (cN : Nat) (m : MV) (w : World) (hN : Rd w AN (names.map str)) (hnl : names.length ≤ 4) (hnd : names.Nodup) (hm : MIn w m) (hz : MSz m) (hl : m.fs.length ≤ 64) :
    Calls Tryz.prog 26 #[.agg m.cells, .slice AN names.length cN] w (ShapeR w names m) := by
  generalize hQ : ShapeR w names m = Q
  have HQ := Lib.hid hQ
  clear hQ
  obtain ⟨A1, c1, fs, A2, c2, bd, A3, c3, ts⟩ := m
  simp only [MV.cells] at *
  have hs1 := hz.s1
  have hs3 := hz.s3
  have hsl := hz.l2
  have hsl3 := hz.l3
  simp only at hs1 hs3 hsl hsl3
  obtain ⟨si, hsi, hsz, hss, hsb⟩ := str_info
  obtain ⟨bi, hbi, hbz, hbs, hbb⟩ := bool_info
  have hCs : madeCells (Value.string ByteArray.empty).cells (names.length * si.size) = valsA names [] := by rw [hss, valsA_nil]; exact made_one _ rfl _
  have hCb : madeCells (Value.bool false).cells (names.length * bi.size) = hadsA names [] := by rw [hbs, hadsA_nil]; exact made_one _ rfl _
  have hfr : ∀ (w : World) t cs, Frm (New w) w (w.alloc (.cells cs t)) := fun w t cs => (Frm.refl _ w).alloc Up.new _
  have HN := Lib.hid hN
  have HND := Lib.hid hnd
  have HM := Lib.hid hm
  have HFR := Lib.hid hfr
  have HCS := Lib.hid hCs
  have HCB := Lib.hid hCb
  have HSS := Lib.hid hss
  have HBS := Lib.hid hbs
  clear hN hnd hm hfr hCs hCb hss hbs
  clear hz
  go_enter Tryz.func26, Tryz.ntmps26
  go_upto_region 1 with (fail)
  have hb1 := Blk.new w 30 #[.slice A1 fs.length c1, .slice A2 bd.length c2, .slice A3 ts.length c3]
  have hF1 := HFR.out w 30 #[.slice A1 fs.length c1, .slice A2 bd.length c2, .slice A3 ts.length c3]
  generalize w.alloc (.cells #[.slice A1 fs.length c1, .slice A2 bd.length c2, .slice A3 ts.length c3] 30) = w1 at *
  obtain ⟨bm, hbm⟩ : ∃ bm, bm = w.heap.size := ⟨_, rfl⟩
  rw [← hbm] at hb1 ⊢
  have hbm1 : bm < w1.heap.size := hb1.lt
  have hbmw : w.heap.size ≤ bm := by omega
  obtain ⟨gv, hgv⟩ : ∃ gv, gv = w1.heap.size := ⟨_, rfl⟩
  have HB1 := Lib.hid hb1
  have HF1 := Lib.hid hF1
  have hgvm : bm < gv := by omega
  clear hb1 hF1 hbm
  have HGV := Lib.hid hgv
  clear hgv
  go_upto_region 2 with (refine wpList_make rfl Tryz.underlying56 hsi hsz rfl (m := names.length) rfl rfl (by rw [hsb]; omega) (by unfold maxLen; omega) ?_; intro w2 hb2 hF2 hs2; rw [HCS.out, ← HGV.out] at hb2; rw [← HGV.out]; clear hs2)
  obtain ⟨gh, hgh⟩ : ∃ gh, gh = w2.heap.size := ⟨_, rfl⟩
  have hgvh : gv < gh := by have := hb2.lt; omega
  have HGH := Lib.hid hgh
  clear hgh
  go_upto_region 4 with (refine wpList_make rfl Tryz.underlying78 hbi hbz rfl (m := names.length) rfl rfl (by rw [hbb]; omega) (by unfold maxLen; omega) ?_; intro w3 hb3 hF3 hs3; rw [HCB.out, ← HGH.out] at hb3; rw [← HGH.out]; clear hs3)
  have hgh3 : gh < w3.heap.size := hb3.lt
  have hF03 := (HF1.out.then_new Up.new hF2).then_new Up.new hF3
  have hBm := (HB1.out.fresh hF2).fresh hF3
  have hBv := hb2.fresh hF3
  have hsz3 := hF03.size
  have HBH := Lib.hid hb3
  clear hF2 hF3 HB1 HF1 hb2 hb3 HGV HGH hbm1
  have HF03 := Lib.hid hF03
  have HBM := Lib.hid hBm
  have HBV := Lib.hid hBv
  clear hF03 hBm hBv
  clear hsi hsz hsb hbi hbz hbb HCS HCB HSS HBS
  go_upto_region 5 with (fail)
  go_loopw [9, 10] (fun v9 v10 wr => ∃ (k : Nat) (S R : List Fld) (A : Option Addr) (c : Nat), k ≤ fs.length ∧ v10 = .int .i64 k ∧ v9 = .slice A R.length c ∧ Hid (fs.take k = S ++ R) ∧ Hid (Shp names (bd.length : Int) S R) ∧ Hid (App (New w3) wr 38 2 A R.length c (fvs R)) ∧
    Hid (Blk wr gv 9 (valsA names S)) ∧ Hid (Blk wr gh 4 (hadsA names S)) ∧ Hid (Frm (fun k => (k = gv ∨ k = gh) ∨ New w3 k) w3 wr)) (fun _ v10 _ => fs.length - (intOf v10).toNat)
  case atStart => exact ⟨0, [], [], none, 0, Nat.zero_le _, rfl, rfl, rfl, Shp.nil, App.none_, HBV.out, HBH.out, Frm.refl _ _⟩
  case round =>
    obtain ⟨k, S, R, A, c, hk, rfl, rfl, hSR, hShp, hA, hBv, hBh, hF⟩ := hrel
    have hNW : ∀ w', Frm (fun k => (k = gv ∨ k = gh) ∨ New w3 k) w3 w' → Frm (New w) w w' := fun w' f => HF03.out.trans (f.mono (fun k hk => by
      rcases hk with (hk | hk) | hk
      · unfold New; omega
      · unfold New; omega
      · unfold New at hk ⊢; omega))
    have hRl : R.length ≤ 64 := by
      have := congrArg List.length hSR.out
      rw [List.length_take, List.length_append] at this
      omega
    have HNW := Lib.hid hNW
    clear hNW
    by_cases hlt : k < fs.length
    · have hMr := HM.out.fresh (HNW.out wr hF.out)
      have hRd := hMr.r1
      simp only at hRd
      obtain ⟨gA, oA, rfl, hx⟩ := hRd.at_ (k := k * 2) (by rw [fvs_length]; omega)
      clear hx
      obtain ⟨hc1, hc2⟩ := fld_cells hRd k hlt
      have hsz := fsizes_mem (List.getElem_mem hlt)
      have hbadP : ps fs[k] = false → plainOk fs[k] (bd.length : Int) = false → Bad names (bd.length : Int) fs := fun h1 h2 => bad_plain hlt h1 h2
      have hbadN : ps fs[k] = true → (fs[k].1 ∉ names ∨ nameOk fs[k].1.tail = false ∨ valOk fs[k].2 = false) → Bad names (bd.length : Int) fs := fun h1 h2 => bad_pseudo hlt h1 h2
      have hbadB : ps fs[k] = true → R ≠ [] → Bad names (bd.length : Int) fs := fun h1 h2 => bad_behind hlt hSR.out hShp.out h1 h2
      have hbadT : ps fs[k] = true → R = [] → fs[k].1 ∈ S.map Prod.fst → Bad names (bd.length : Int) fs := fun h1 h2 h3 => bad_twice hlt (by rw [hSR.out, h2, List.append_nil]) h1 h3
      have htk : fs.take (k + 1) = S ++ R ++ [fs[k]] := by rw [List.take_succ_eq_append_getElem hlt, hSR.out]
      have hpsd : ps fs[k] = true → fieldOk fs[k] = (nameOk fs[k].1.tail && valOk fs[k].2) := fieldOk_pseudo _
      have hpla : ps fs[k] = false → plainOk fs[k] (bd.length : Int) = (fieldOk fs[k] && (!decide (fs[k].1 = bCL) || isLen fs[k].2 (bd.length : Int))) := fieldOk_plain _ _
      generalize fs[k] = f at *
      obtain ⟨a, bw⟩ := f
      simp only [str] at hc1 hc2
      unfold fsize at hsz
      simp only at hsz hbadN hbadT hpsd hpla
      have hgAr := World.block_lt_of_cell? _ _ hc1
      simp only at hgAr
      have hPs : ∀ w, Calls Tryz.prog 45 #[.string ⟨a.toArray⟩] w fun e w' => e = .returned (.bool (ps (a, bw))) ∧ w = w' := fun w => rpseudo_any a w
      have hFo : ∀ w, Calls Tryz.prog 44 #[.agg #[.string ⟨a.toArray⟩, .string ⟨bw.toArray⟩]] w fun e w' => e = .returned (.bool (fieldOk (a, bw))) ∧ Frm (New w) w w' := fun w => rfield_any (a, bw) w (by simp only; omega) (by simp only; omega)
      have hLe : ∀ w, Calls Tryz.prog 46 #[.string ⟨bw.toArray⟩, .int .i64 (bd.length : Int)] w fun e w' => e = .returned (.bool (isLen bw (bd.length : Int))) ∧ w = w' := fun w => rlength_any bw _ w (by omega)
      obtain ⟨pf, hpf⟩ : ∃ pf, pf = ps (a, bw) := ⟨_, rfl⟩
      rw [← hpf] at hPs hbadP hbadN hbadB hbadT hpsd hpla
      obtain ⟨fo, hfo⟩ : ∃ fo, fo = fieldOk (a, bw) := ⟨_, rfl⟩
      rw [← hfo] at hFo hpsd hpla
      obtain ⟨il, hil⟩ : ∃ il, il = isLen bw (bd.length : Int) := ⟨_, rfl⟩
      rw [← hil] at hLe hpla
      have ea : (⟨a.toArray⟩ : ByteArray).toList = a := mk_toList a
      have HMR := Lib.hid hMr
      have HRD := Lib.hid hRd
      have HBADP := Lib.hid hbadP
      have HBADN := Lib.hid hbadN
      have HBADB := Lib.hid hbadB
      have HBADT := Lib.hid hbadT
      have HTK := Lib.hid htk
      have HPS := Lib.hid hPs
      have HFO := Lib.hid hFo
      have HLE := Lib.hid hLe
      have HPF := Lib.hid hpf
      have HFQ := Lib.hid hfo
      have HIL := Lib.hid hil
      have HPSD := Lib.hid hpsd
      have HPLA := Lib.hid hpla
      clear hMr hRd hbadP hbadN hbadB hbadT htk hPs hFo hLe hpf hfo hil hpsd hpla
      have hbmr := HBM.out.keep hF.out (fun h => by rcases h with (h | h) | h; exact absurd h (by omega); exact absurd h (by omega); unfold New at h; omega)
      have hy0 := hbmr.cell 0
      simp only [List.getElem?_toArray, List.getElem?_cons_zero] at hy0
      have hbml := hbmr.lt
      have HBMR := Lib.hid hbmr
      clear hbmr
      go_upto_region 8 with (first
        | (refine wpList_new rfl rfl zFld rfl ?_; intro w6 hb6 hF6 hs6)
        | (refine wpList_store_agg rfl rfl rfl (cs := #[.string ⟨a.toArray⟩, .string ⟨bw.toArray⟩]) rfl hb6 rfl (fld_one _ _) (by kernel_rfl) ?_; intro w7 hb7 hF7 hs7))
      obtain ⟨bx, hbx⟩ : ∃ bx, bx = wr.heap.size := ⟨_, rfl⟩
      rw [← hbx] at hb6 hb7 hs6 hF7 ⊢
      have hF67 : Frm (New wr) wr w7 := hF6.trans (hF7.mono (fun q e => by
        have e2 : q = bx := e
        unfold New; omega))
      have hsr := hF.out.size
      have hF37 := hF.out.then_new (fun k hk => .inr hk) hF67
      have hA7 := hA.out.fresh hF67
      have hBv7 := hBv.out.fresh hF67
      have hBh7 := hBh.out.fresh hF67
      have hbm7 := HBMR.out.fresh hF67
      have hbl7 := hb7.lt
      have hbx2 : w3.heap.size ≤ bx := by omega
      clear hbx hb6 hF6 hs6 hF7 hs7 hF67 hc1 hc2 hA hBv hBh hF hy0 HBMR hbml
      have HB7 := Lib.hid hb7
      clear hb7
      have HF37 := Lib.hid hF37
      have HA7 := Lib.hid hA7
      have HBV7 := Lib.hid hBv7
      have HBH7 := Lib.hid hBh7
      have HBM7 := Lib.hid hbm7
      clear hF37 hA7 hBv7 hBh7 hbm7
      have hend : ∀ w', Frm (fun k => (k = gv ∨ k = gh) ∨ New w3 k) w3 w' → Bad names (bd.length : Int) fs → Q (.returned (.tuple #[.slice none 0 0, .slice none 0 0, .bool false])) w' := fun w' f h => by
        rw [← HQ.out]
        exact ⟨HNW.out _ f, .inr ⟨.inl h, rfl⟩⟩
      have HEND := Lib.hid hend
      clear hend
      cases fo with
      | false =>
        have hbad : Bad names (bd.length : Int) fs := by
          cases pf with
          | false => exact HBADP.out rfl (by rw [HPLA.out rfl]; rfl)
          | true => exact HBADN.out rfl (.inr (by have := (HPSD.out rfl).symm; simp only [Bool.and_eq_false_iff] at this; exact this))
        have HBAD := Lib.hid hbad
        clear hbad
        go_wp2_with (first
          | (refine wpList_load_agg aFld rfl rfl rfl HB7.out rfl ?_)
          | (go_at_call 44; refine (HFO.out _).mono ?_; rintro e w8 ⟨rfl, hF8⟩; have HF8 := Lib.hid hF8; clear hF8))
        go_ret3
        exact HEND.out _ (HF37.out.then_new (fun k hk => .inr hk) HF8.out) HBAD.out
      | true =>
        go_upto_region 10 with (first
          | (refine wpList_load_agg aFld rfl rfl rfl HB7.out rfl ?_)
          | (go_at_call 44; refine (HFO.out _).mono ?_; rintro e w8 ⟨rfl, hF8⟩))
        have hb8 := HB7.out.fresh hF8
        have hA8 := HA7.out.fresh hF8
        have hBv8 := HBV7.out.fresh hF8
        have hBh8 := HBH7.out.fresh hF8
        have hbm8 := HBM7.out.fresh hF8
        have hF38 := HF37.out.then_new (fun k hk => .inr hk) hF8
        have hbl8 := hb8.lt
        have hbml8 := hbm8.lt
        have hs38 := hF38.size
        clear hF8
        have hz0 := hb8.cell 0
        have hz1 := hb8.cell 1
        simp only [List.getElem?_toArray, List.getElem?_cons_zero, List.getElem?_cons_succ] at hz0 hz1
        have hy1 := hbm8.cell 1
        simp only [List.getElem?_toArray, List.getElem?_cons_zero, List.getElem?_cons_succ] at hy1
        clear HB7 HA7 HBV7 HBH7 HBM7 HF37 HFO HMR
        have HB8 := Lib.hid hb8
        have HA8 := Lib.hid hA8
        have HBV8 := Lib.hid hBv8
        have HBH8 := Lib.hid hBh8
        have HF38 := Lib.hid hF38
        have HBM8 := Lib.hid hbm8
        clear hb8 hA8 hBv8 hBh8 hF38 hbm8
        cases pf with
        | false =>
          have hpl := HPLA.out rfl
          simp only [Bool.true_and] at hpl
          have happ : plainOk (a, bw) (bd.length : Int) = true → Hid (Shp names (bd.length : Int) S (R ++ [(a, bw)])) := fun h => Lib.hid (hShp.out.rest HPF.out.symm h)
          have HPL := Lib.hid hpl
          have HAPP := Lib.hid happ
          clear hpl happ
          by_cases hcl : a = bCL
          · have g7 : (a == [99, 111, 110, 116, 101, 110, 116, 45, 108, 101, 110, 103, 116, 104]) = true := by rw [beq_iff_eq]; exact hcl
            cases il with
            | false =>
              have hbad := HBADP.out rfl (by rw [HPL.out, decide_eq_true hcl]; rfl)
              have HBAD := Lib.hid hbad
              have HCL := Lib.hid hcl
              clear hbad hcl
              go_wp2_with (first
                | (go_at_call 45; refine (HPS.out _).mono ?_; rintro e w' ⟨rfl, hw⟩; rw [← hw]; clear hw w')
                | (go_at_call 46; refine (HLE.out _).mono ?_; rintro e w' ⟨rfl, hw⟩; rw [← hw]; clear hw w'))
              go_ret3
              exact HEND.out _ HF38.out HBAD.out
            | true =>
              have hsh := HAPP.out (by rw [HPL.out]; simp)
              have HCL := Lib.hid hcl
              clear hcl
              go_wp2_with (first
                | (go_at_call 45; refine (HPS.out _).mono ?_; rintro e w' ⟨rfl, hw⟩; rw [← hw]; clear hw w')
                | (go_at_call 46; refine (HLE.out _).mono ?_; rintro e w' ⟨rfl, hw⟩; rw [← hw]; clear hw w')
                | (refine wpList_load_agg aFld rfl rfl rfl HB8.out rfl ?_)
                | (at_builtin; refine wpList_append_lit flds rfl rfl rfl HA8.out (Up.new.of hs38) rfl rfl (fld_one _ _) (by omega) ?_; intro A9 c9 w9 hA9 hF9 _ _; have HA9 := Lib.hid hA9; have HF9 := Lib.hid hF9; clear hA9 hF9))
              go_roundw
              case rel =>
                refine ⟨k + 1, S, R ++ [(a, bw)], A9, c9, by omega, by go_num, by rw [List.length_append]; rfl, ?_, hsh.out, ?_, ?_, ?_, ?_⟩
                · show _ = _
                  rw [HTK.out, List.append_assoc]
                · have h9 := HA9.out
                  rw [fvs_append, List.length_append]
                  exact h9
                · exact HBV8.out.keep HF9.out (fun h => by unfold New at h; omega)
                · exact HBH8.out.keep HF9.out (fun h => by unfold New at h; omega)
                · exact HF38.out.trans (HF9.out.mono (fun q h => .inr h))
              case measure => simp [intOf]; omega
          · have g7 : (a == [99, 111, 110, 116, 101, 110, 116, 45, 108, 101, 110, 103, 116, 104]) = false := by rw [beq_eq_false_iff_ne]; exact hcl
            have n7 : ¬ a = [99, 111, 110, 116, 101, 110, 116, 45, 108, 101, 110, 103, 116, 104] := hcl
            have hsh := HAPP.out (by rw [HPL.out, decide_eq_false hcl]; rfl)
            have HCL := Lib.hid hcl
            clear hcl
            go_wp2_with (first
              | (go_at_call 45; refine (HPS.out _).mono ?_; rintro e w' ⟨rfl, hw⟩; rw [← hw]; clear hw w')
              | (go_at_call 46; refine (HLE.out _).mono ?_; rintro e w' ⟨rfl, hw⟩; rw [← hw]; clear hw w')
              | (refine wpList_load_agg aFld rfl rfl rfl HB8.out rfl ?_)
              | (at_builtin; refine wpList_append_lit flds rfl rfl rfl HA8.out (Up.new.of hs38) rfl rfl (fld_one _ _) (by omega) ?_; intro A9 c9 w9 hA9 hF9 _ _; have HA9 := Lib.hid hA9; have HF9 := Lib.hid hF9; clear hA9 hF9))
            go_roundw
            case rel =>
              refine ⟨k + 1, S, R ++ [(a, bw)], A9, c9, by omega, by go_num, by rw [List.length_append]; rfl, ?_, hsh.out, ?_, ?_, ?_, ?_⟩
              · show _ = _
                rw [HTK.out, List.append_assoc]
              · have h9 := HA9.out
                rw [fvs_append, List.length_append]
                exact h9
              · exact HBV8.out.keep HF9.out (fun h => by unfold New at h; omega)
              · exact HBH8.out.keep HF9.out (fun h => by unfold New at h; omega)
              · exact HF38.out.trans (HF9.out.mono (fun q h => .inr h))
            case measure => simp [intOf]; omega
        | true =>
          obtain ⟨wo, hwo⟩ : ∃ wo, wo = wr := ⟨_, rfl⟩
          subst hwo
          go_upto_region 16 with (go_at_call 45; refine (HPS.out _).mono ?_; rintro e w' ⟨rfl, hw⟩; rw [← hw]; clear hw w')
          go_loopw [12, 13] (fun v12 v13 wi => ∃ (j : Nat) (z : Int), j ≤ names.length ∧ v13 = .int .i64 j ∧ v12 = .int .i64 z ∧ Hid ((z = -1 ∧ a ∉ names.take j) ∨ ∃ q : Nat, ∃ hq : q < names.length, q < j ∧ z = q ∧ names[q] = a) ∧ ∃ d, wi = w8.drewN d) (fun _ v13 _ => names.length - (intOf v13).toNat)
          case atStart => exact ⟨0, -1, Nat.zero_le _, rfl, rfl, .inl ⟨rfl, by simp⟩, 0, rfl⟩
          case round =>
            obtain ⟨j, z, hj, rfl, rfl, hz, d, rfl⟩ := hrel
            by_cases hjl : j < names.length
            · have hRn := HN.out.fresh (HNW.out _ HF38.out)
              obtain ⟨gN, oN, rfl, hx⟩ := hRn.at_ (k := j) (by simpa using hjl)
              rw [List.getElem_map] at hx
              have hnext : names[j] ≠ a → a ∉ names.take j → a ∉ names.take (j + 1) := fun h1 h2 h3 => by
                rw [List.take_succ_eq_append_getElem hjl] at h3
                rcases List.mem_append.1 h3 with h3 | h3
                · exact h2 h3
                · exact h1 (List.mem_singleton.1 h3).symm
              have hnj : ∃ q : Nat, ∃ hq : q < names.length, q = j ∧ names[q] = names[j] := ⟨j, hjl, rfl, rfl⟩
              generalize names[j] = nm at *
              simp only [str] at hx
              have hgN := World.block_lt_of_cell? _ _ hx
              simp only at hgN
              have hzd : (8 : Nat) = 8 := rfl
              have HRN := Lib.hid hRn
              have HNEXT := Lib.hid hnext
              have HNJ := Lib.hid hnj
              clear hRn hnext hnj
              by_cases e : nm = a
              · subst e
                go_wp2_with (fail)
                go_quiet (fail)
                go_wp2_with (fail)
                go_roundw
                case rel => exact ⟨j + 1, j, by omega, by go_num, rfl, by
                  obtain ⟨q, hq, h1, h2⟩ := HNJ.out
                  exact .inr ⟨q, hq, by omega, by omega, h2⟩, _, rfl⟩
                case measure => simp [intOf]; omega
              · have hbe : (nm == a) = false := by rw [beq_eq_false_iff_ne]; exact e
                have hbe2 : ¬ nm = a := e
                have hz2 : Hid ((z = -1 ∧ a ∉ names.take (j + 1)) ∨ ∃ q : Nat, ∃ hq : q < names.length, q < j + 1 ∧ z = q ∧ names[q] = a) := by
                  rcases hz.out with ⟨h1, h2⟩ | ⟨q, hq, h1, h2, h3⟩
                  · exact .inl ⟨h1, HNEXT.out e h2⟩
                  · exact .inr ⟨q, hq, by omega, h2, h3⟩
                clear hz
                go_wp2_with (fail)
                go_quiet (fail)
                go_wp2_with (fail)
                go_roundw
                case rel => exact ⟨j + 1, z, by omega, by go_num, rfl, hz2.out, _, rfl⟩
                case measure => simp [intOf]; omega
            · obtain rfl : j = names.length := by omega
              have hz2 := hz.out
              rw [List.take_length] at hz2
              clear hz
              go_upto_region 20 with (fail)
              rcases hz2 with ⟨rfl, h2⟩ | ⟨q, hq, _, rfl, hqa⟩
              · have hbad := HBADN.out (by trivial) (.inl h2)
                have HBAD := Lib.hid hbad
                clear hbad
                go_wp2_with (fail)
                go_ret3
                exact HEND.out _ (HF38.out.drewN d) HBAD.out
              · have hgc := HBH8.out.cell q
                rw [hadsA_get hq, hqa] at hgc
                have hgf := HBH8.out.frozen q
                have hghl := HBH8.out.lt
                cases hin : decide (a ∈ S.map Prod.fst) with
                | true =>
                  rw [hin] at hgc
                  go_wp2_with (fail)
                  go_ret3
                  refine HEND.out _ (HF38.out.drewN d) ?_
                  by_cases hR0 : R = []
                  · exact HBADT.out (by trivial) hR0 (of_decide_eq_true hin)
                  · exact HBADB.out (by trivial) hR0
                | false =>
                  rw [hin] at hgc
                  by_cases hR0 : R = []
                  · subst hR0
                    have hvc := HBV8.out.cell q
                    rw [valsA_get hq] at hvc
                    have hvf := HBV8.out.frozen q
                    have hgvl := HBV8.out.lt
                    generalize str (val S names[q]) = old at *
                    go_wp2_with (fail)
                    go_roundw
                    case rel =>
                      have hns : a ∉ S.map Prod.fst := of_decide_eq_false hin
                      have hfo : (nameOk a.tail && valOk bw) = true := (HPSD.out (by trivial)).symm
                      rw [Bool.and_eq_true] at hfo
                      have hset1 : Frm (fun k => k = gv ∨ k = gh) w8 ((w8.drewN d).setCell ⟨gv, q, none⟩ (str bw)) := ((Frm.refl _ w8).drewN d).setCell (p := ⟨gv, q, none⟩) (.inl rfl) _
                      have hset : Frm (fun k => k = gv ∨ k = gh) w8 (((w8.drewN d).setCell ⟨gv, q, none⟩ (str bw)).setCell ⟨gh, q, none⟩ (.bool true)) := hset1.setCell (p := ⟨gh, q, none⟩) (.inr rfl) _
                      refine ⟨k + 1, S ++ [(a, bw)], [], A, c, by omega, by go_num, rfl, ?_, ?_, ?_, ?_, ?_, ?_⟩
                      · show _ = _
                        rw [HTK.out, List.append_nil, List.append_nil]
                      · exact hShp.out.more HPF.out.symm (by rw [← hqa]; exact List.getElem_mem hq) hfo.1 hfo.2 hns
                      · exact HA8.out.keep hset (fun p h e => by have := HA8.out.inM _ h; unfold New at this; rcases e with e | e <;> omega)
                      · have h := ((HBV8.out.drewN d).set_ q (str bw)).far (p := ⟨gh, q, none⟩) (by simp only; omega) (.bool true)
                        rw [valsA_snoc HND.out hq (f := (a, bw)) hqa hns] at h
                        exact h
                      · have h := ((HBH8.out.drewN d).far (p := ⟨gv, q, none⟩) (by simp only; omega) (str bw)).set_ q (.bool true)
                        rw [hadsA_snoc HND.out hq (f := (a, bw)) hqa] at h
                        exact h
                      · exact HF38.out.trans (hset.mono (fun p h => .inl h))
                    case measure => simp [intOf]; omega
                  · have hR1 : (0 : Int) < (R.length : Int) := by
                      have := List.length_pos_iff.2 hR0
                      omega
                    go_wp2_with (fail)
                    go_ret3
                    exact HEND.out _ (HF38.out.drewN d) (HBADB.out (by trivial) hR0)
    · have hke : k = fs.length := by omega
      subst hke
      rw [List.take_length] at hSR
      have hbmr := HBM.out.keep hF.out (fun h => by rcases h with (h | h) | h; exact absurd h (by omega); exact absurd h (by omega); unfold New at h; omega)
      have hy0 := hbmr.cell 0
      simp only [List.getElem?_toArray, List.getElem?_cons_zero] at hy0
      have hbml := hbmr.lt
      obtain ⟨wo, hwo⟩ : ∃ wo, wo = wr := ⟨_, rfl⟩
      subst hwo
      have HBMR := Lib.hid hbmr
      clear hbmr
      go_upto_region 24 with (fail)
      clear hy0
      have hend : ∀ w', Frm (New wo) wo w' → trailOk ts = false → Q (.returned (.tuple #[.slice none 0 0, .slice none 0 0, .bool false])) w' := fun w' f h => by
        rw [← HQ.out]
        exact ⟨HNW.out _ (hF.out.then_new (fun k hk => .inr hk) f), .inr ⟨.inr h, rfl⟩⟩
      have HEND := Lib.hid hend
      clear hend
      go_loopw [14] (fun v14 wi => ∃ j : Nat, j ≤ ts.length ∧ v14 = .int .i64 j ∧ Hid ((ts.take j).all trailOne = true) ∧ Hid (Frm (New wo) wo wi)) (fun v14 _ => ts.length - (intOf v14).toNat)
      case atStart => exact ⟨0, Nat.zero_le _, rfl, rfl, Frm.refl _ _⟩
      case round =>
        obtain ⟨j, hj, rfl, hall, hFi⟩ := hrel
        have hbmi := HBMR.out.fresh hFi.out
        have hy2 := hbmi.cell 2
        simp only [List.getElem?_toArray, List.getElem?_cons_zero, List.getElem?_cons_succ] at hy2
        have hbil := hbmi.lt
        have hF3i := hF.out.then_new (fun k hk => .inr hk) hFi.out
        by_cases hjl : j < ts.length
        · have hRd := (HM.out.fresh (HNW.out wr hF3i)).r3
          simp only at hRd
          obtain ⟨gT, oT, rfl, hx⟩ := hRd.at_ (k := j * 2) (by rw [fvs_length]; omega)
          clear hx
          obtain ⟨hc1, hc2⟩ := fld_cells hRd j hjl
          have hno : (fieldOk ts[j] = false ∨ ps ts[j] = true ∨ ts[j].1 = bCL) → trailOk ts = false := fun h => lall_no _ _ _ hjl (trailOne_not _ h)
          have hyes : fieldOk ts[j] = true → ps ts[j] = false → ts[j].1 ≠ bCL → (ts.take (j + 1)).all trailOne = true := fun h1 h2 h3 => lall_step _ _ _ hjl hall.out (trailOne_field _ h1 h2 h3)
          have hsz := fsizes_mem (List.getElem_mem hjl)
          generalize ts[j] = f at *
          obtain ⟨a, bw⟩ := f
          simp only [str] at hc1 hc2
          unfold fsize at hsz
          simp only at hsz hno hyes
          have hPs : ∀ w, Calls Tryz.prog 45 #[.string ⟨a.toArray⟩] w fun e w' => e = .returned (.bool (ps (a, bw))) ∧ w = w' := fun w => rpseudo_any a w
          have hFo : ∀ w, Calls Tryz.prog 44 #[.agg #[.string ⟨a.toArray⟩, .string ⟨bw.toArray⟩]] w fun e w' => e = .returned (.bool (fieldOk (a, bw))) ∧ Frm (New w) w w' := fun w => rfield_any (a, bw) w (by simp only; omega) (by simp only; omega)
          generalize ps (a, bw) = pf at *
          generalize fieldOk (a, bw) = fo at *
          have ea : (⟨a.toArray⟩ : ByteArray).toList = a := mk_toList a
          have HNO := Lib.hid hno
          have HYES := Lib.hid hyes
          have HRD := Lib.hid hRd
          have HPS := Lib.hid hPs
          have HFO := Lib.hid hFo
          have HBMI := Lib.hid hbmi
          have HF3I := Lib.hid hF3i
          clear hno hyes hRd hPs hFo hbmi hF3i
          go_upto_region 27 with (first
            | (refine wpList_new rfl rfl zFld rfl ?_; intro w6 hb6 hF6 hs6)
            | (refine wpList_store_agg rfl rfl rfl (cs := #[.string ⟨a.toArray⟩, .string ⟨bw.toArray⟩]) rfl hb6 rfl (fld_one _ _) (by kernel_rfl) ?_; intro w7 hb7 hF7 hs7))
          obtain ⟨bx, hbx⟩ : ∃ bx, bx = wr.heap.size := ⟨_, rfl⟩
          rw [← hbx] at hb6 hb7 hs6 hF7 ⊢
          have hF67 : Frm (New wr) wr w7 := hF6.trans (hF7.mono (fun q e => by
            have e2 : q = bx := e
            unfold New; omega))
          have hFi7 := hFi.out.then_new Up.new hF67
          have hbl7 := hb7.lt
          clear hbx hb6 hF6 hs6 hF7 hs7 hF67 hc1 hc2 hy2 hbil
          have HB7 := Lib.hid hb7
          clear hb7
          have HFI7 := Lib.hid hFi7
          clear hFi7
          cases fo with
          | false =>
            have hbad := HNO.out (.inl rfl)
            have HBAD := Lib.hid hbad
            clear hbad
            go_wp2_with (first
              | (refine wpList_load_agg aFld rfl rfl rfl HB7.out rfl ?_)
              | (go_at_call 44; refine (HFO.out _).mono ?_; rintro e w8 ⟨rfl, hF8⟩; have HF8 := Lib.hid hF8; clear hF8))
            go_ret3
            exact HEND.out _ (HFI7.out.then_new Up.new HF8.out) HBAD.out
          | true =>
            go_wp2_with (refine wpList_load_agg aFld rfl rfl rfl HB7.out rfl ?_)
            refine (HFO.out _).mono ?_
            rintro e w8 ⟨rfl, hF8⟩
            have hb8 := HB7.out.fresh hF8
            have hFi8 := HFI7.out.then_new Up.new hF8
            have hbl8 := hb8.lt
            clear hF8 HB7 HFI7 HFO
            have hz0 := hb8.cell 0
            simp only [List.getElem?_toArray, List.getElem?_cons_zero] at hz0
            have HFI8 := Lib.hid hFi8
            have HB8 := Lib.hid hb8
            clear hFi8 hb8
            cases pf with
            | true =>
              have hbad := HNO.out (.inr (.inl rfl))
              have HBAD := Lib.hid hbad
              clear hbad
              go_wp2_with (go_at_call 45; refine (HPS.out _).mono ?_; rintro e w' ⟨rfl, hw⟩; rw [← hw]; clear hw w')
              go_ret3
              exact HEND.out _ HFI8.out HBAD.out
            | false =>
              by_cases hcl : a = bCL
              · have g7 : (a == [99, 111, 110, 116, 101, 110, 116, 45, 108, 101, 110, 103, 116, 104]) = true := by rw [beq_iff_eq]; exact hcl
                have hbad := HNO.out (.inr (.inr hcl))
                have HBAD := Lib.hid hbad
                have HCL := Lib.hid hcl
                clear hbad hcl
                go_wp2_with (go_at_call 45; refine (HPS.out _).mono ?_; rintro e w' ⟨rfl, hw⟩; rw [← hw]; clear hw w')
                go_ret3
                exact HEND.out _ HFI8.out HBAD.out
              · have g7 : (a == [99, 111, 110, 116, 101, 110, 116, 45, 108, 101, 110, 103, 116, 104]) = false := by rw [beq_eq_false_iff_ne]; exact hcl
                have n7 : ¬ a = [99, 111, 110, 116, 101, 110, 116, 45, 108, 101, 110, 103, 116, 104] := hcl
                have hry := HYES.out (by trivial) (by trivial) hcl
                have HRY := Lib.hid hry
                have HCL := Lib.hid hcl
                clear hry hcl
                go_wp2_with (go_at_call 45; refine (HPS.out _).mono ?_; rintro e w' ⟨rfl, hw⟩; rw [← hw]; clear hw w')
                go_roundw
                case rel => exact ⟨j + 1, by omega, by go_num, HRY.out, HFI8.out⟩
                case measure => simp [intOf]; omega
        · obtain rfl : j = ts.length := by omega
          have hal := hall.out
          rw [List.take_of_length_le (Nat.le_refl _)] at hal
          have HBMI := Lib.hid hbmi
          have HF3I := Lib.hid hF3i
          have HAL := Lib.hid hal
          clear hbmi hF3i hal
          clear hall
          go_wp2_with (fail)
          go_ret3
          rw [← HQ.out]
          refine ⟨HNW.out _ HF3I.out, .inl ⟨S, R, A, c, some ⟨gv, 0, none⟩, hSR.out, hShp.out, HAL.out, rfl, (hA.out.fresh hFi.out).mono (fun k hk => by unfold New at hk ⊢; omega), ?_⟩⟩
          exact (hBv.out.fresh hFi.out).rd
end Go.Proofs.YtpojejdddgdjdaaGreatDoor.M
