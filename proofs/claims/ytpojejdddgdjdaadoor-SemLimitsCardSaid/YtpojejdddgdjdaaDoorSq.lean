/- sem.pseudo.fields: what it leaves. At most 64 fields, their sizes below 2^62. -/
import Derived.BigQuiet
import Derived.Deep.CutBlock
import Derived.Lib.Hide
import Derived.IntWalk
import Derived.Test.YtpojejdddgdjdaaDoorSp
import Derived.Test.YtpojejdddgdjdaaDoorArr
import Derived.Test.YtpojejdddgdjdaaDoorArrb
import Derived.Test.YtpojejdddgdjdaaDoorMap
namespace Go.Proofs.YtpojejdddgdjdaaDoor.M
open Go.ChangeShapes Go.WideShapes Go.ChangeAt Go.RowKit

theorem flds : Elem Tryd.prog 22 34 2 32 :=
  ⟨by kernel_rfl, by
    have h : (Tryd.prog.info? 34).map (fun i => (i.zero, i.size, i.bytes)) = some (some (.agg #[.string ByteArray.empty, .string ByteArray.empty]), 2, 32) := by kernel_rfl
    obtain ⟨i, hi, hz, hs, hb⟩ := info_parts h
    exact ⟨i, _, hi, hz, hs, hb, rfl⟩, by omega, by omega⟩
def cnts (S : List Fld) : List (Bytes × Value) := S.map (fun f => (f.1, .int .i64 1))
theorem cnts_get (nm : Bytes) : ∀ S : List Fld, getE nm (cnts S) = if nm ∈ S.map Prod.fst then some (.int .i64 1) else none
  | [] => rfl
  | f :: r => by
    show getE nm ((f.1, .int .i64 1) :: cnts r) = _
    rw [getE_cons, cnts_get nm r]
    by_cases h : nm = f.1
    · simp [h]
    · have e : (nm ∈ List.map Prod.fst (f :: r)) ↔ nm ∈ List.map Prod.fst r := by simp [h]
      rw [if_neg h]
      simp only [e]
theorem cnts_snoc (S : List Fld) (f : Fld) : cnts (S ++ [f]) = cnts S ++ [(f.1, .int .i64 1)] := by
  unfold cnts
  rw [List.map_append]; rfl
theorem putE_new {k : Bytes} {v : Value} : ∀ {l : List (Bytes × Value)}, k ∉ l.map Prod.fst → putE k v l = l ++ [(k, v)]
  | [], _ => rfl
  | p :: r, h => by
    unfold putE
    rw [if_neg (fun e => h (by rw [e]; exact List.mem_cons_self)), putE_new (fun e => h (List.mem_cons_of_mem _ e))]
    rfl
theorem cnts_put (S : List Fld) (f : Fld) (h : f.1 ∉ S.map Prod.fst) : putE f.1 (.int .i64 1) (cnts S) = cnts (S ++ [f]) := by
  rw [cnts_snoc]
  refine putE_new ?_
  unfold cnts
  rw [List.map_map]
  exact h
def ptrs (g : Nat) (pl : List (Bytes × Nat)) : List (Bytes × Value) := pl.map (fun q => (q.1, .pointer (some ⟨g, q.2, none⟩)))
theorem ptrs_yes {g : Nat} {nm : Bytes} : ∀ {pl : List (Bytes × Nat)}, nm ∈ pl.map Prod.fst → ∃ i, (nm, i) ∈ pl ∧ getE nm (ptrs g pl) = some (.pointer (some ⟨g, i, none⟩))
  | [], h => by cases h
  | q :: r, h => by
    show ∃ i, (nm, i) ∈ q :: r ∧ getE nm ((q.1, .pointer (some ⟨g, q.2, none⟩)) :: ptrs g r) = _
    rw [getE_cons]
    by_cases hq : nm = q.1
    · rw [if_pos hq]
      exact ⟨q.2, by rw [hq]; exact List.mem_cons_self, rfl⟩
    · rw [if_neg hq]
      obtain ⟨i, h1, h2⟩ := ptrs_yes (pl := r) (by
        rcases List.mem_cons.1 h with h | h
        · exact absurd h hq
        · exact h)
      exact ⟨i, List.mem_cons_of_mem _ h1, h2⟩
theorem ptrs_no {g : Nat} {nm : Bytes} {pl : List (Bytes × Nat)} (h : nm ∉ pl.map Prod.fst) : getE nm (ptrs g pl) = none := by
  refine getE_none _ _ ?_
  unfold ptrs
  rw [List.map_map]
  exact h
theorem zInt : (Tryd.prog.info? 3).map (·.zero) = some (some (.int .i64 0)) := by kernel_rfl
theorem zPtr : (Tryd.prog.info? 58).map (·.zero) = some (some (.pointer none)) := by kernel_rfl
theorem uPs : Tryd.prog.underlying 60 = some (.map 9 58) := Tryd.underlying60
theorem uIn : Tryd.prog.underlying 75 = some (.map 9 3) := Tryd.underlying75
/-- what it leaves -/
def FieldsR (w : World) (g : Nat) (t : TypeId) (C : List Fld → Array Value) (names : List Bytes) (m : MV) (e : Ending) (w' : World) : Prop :=
  Frm (fun k => k = g ∨ New w k) w w' ∧
  ((∃ S R A c, m.fs = S ++ R ∧ Shp names (m.b.length : Int) S R ∧ e = .returned (.tuple #[.slice A R.length c, .bool (trailOk m.ts)]) ∧ App (New w) w' 34 2 A R.length c (fvs R) ∧ Blk w' g t (C S)) ∨
   (Bad names (m.b.length : Int) m.fs ∧ e = .returned (.tuple #[.slice none 0 0, .bool false])))
set_option maxRecDepth 100000 in
set_option maxHeartbeats 4000000 in
theorem fields_any (pl : List (Bytes × Nat)) (g b : Nat) (t : TypeId) (C : List Fld → Array Value) (m : MV) (w : World) (hmap : MapIs w b str (ptrs g pl)) (hblk : Blk w g t (C [])) (hbg : b ≠ g)
    (hC : ∀ S f i, (f.1, i) ∈ pl → f.1 ∉ S.map Prod.fst → C (S ++ [f]) = (C S).setIfInBounds i (str f.2) ∧ i < (C S).size)
    (hm : ∀ w', Frm (fun k => k = g ∨ New w k) w w' → MIn w' m) (hz : MSz m) (hl : m.fs.length ≤ 64) :
    Calls Tryd.prog 28 #[.map (some b), .agg m.cells] w (FieldsR w g t C (pl.map Prod.fst) m) := by
  generalize hQ : FieldsR w g t C (pl.map Prod.fst) m = Q
  have HQ := Lib.hid hQ
  clear hQ
  obtain ⟨A1, c1, fs, A2, c2, bd, A3, c3, ts⟩ := m
  simp only [MV.cells] at *
  have hs1 := hz.s1
  have hs3 := hz.s3
  have hsl := hz.l2
  have hsl3 := hz.l3
  simp only at hs1 hs3 hsl hsl3
  have hgw := hblk.lt
  have hbw := hmap.lt
  have hfr : ∀ (w : World) t cs, Frm (New w) w (w.alloc (.cells cs t)) := fun w t cs => (Frm.refl _ w).alloc Up.new _
  have HMAP := Lib.hid hmap
  have HBLK := Lib.hid hblk
  have HC := Lib.hid hC
  have HM := Lib.hid hm
  have HFR := Lib.hid hfr
  clear hmap hblk hC hm hfr
  clear hz
  go_enter Tryd.func28, Tryd.ntmps28
  go_upto_region 1 with (fail)
  have hb1 := Blk.new w 25 #[.slice A1 fs.length c1, .slice A2 bd.length c2, .slice A3 ts.length c3]
  have hF1 := HFR.out w 25 #[.slice A1 fs.length c1, .slice A2 bd.length c2, .slice A3 ts.length c3]
  generalize w.alloc (.cells #[.slice A1 fs.length c1, .slice A2 bd.length c2, .slice A3 ts.length c3] 25) = w1 at *
  obtain ⟨bm, hbm⟩ : ∃ bm, bm = w.heap.size := ⟨_, rfl⟩
  rw [← hbm] at hb1 ⊢
  have hbm2 : bm < w1.heap.size := hb1.lt
  have hbmg : bm ≠ g := by omega
  have hbmb : bm ≠ b := by omega
  have hbmw : w.heap.size ≤ bm := by omega
  have HB1 := Lib.hid hb1
  have HF1 := Lib.hid hF1
  clear hb1 hF1 hbm
  go_upto_region 2 with (fail)
  go_wp2_with (fail)
  rw [run_makeMap]
  have hmi := MapIs.new w1 str
  have hF2 : Frm (New w1) w1 (w1.alloc (.map #[] 0)) := (Frm.refl _ w1).alloc Up.new _
  generalize w1.alloc (.map #[] 0) = w2 at *
  obtain ⟨bi, hbi⟩ : ∃ bi, bi = w1.heap.size := ⟨_, rfl⟩
  rw [← hbi] at hmi ⊢
  have hbi2 : bi < w2.heap.size := hmi.lt
  have hbib : bi ≠ b := by have := HB1.out.lt; omega
  have hbig : bi ≠ g := by have := HB1.out.lt; omega
  have hbim : bi ≠ bm := by omega
  have hbiw : w.heap.size ≤ bi := by omega
  have hF02 := HF1.out.then_new Up.new hF2
  have hb2 := HB1.out.fresh hF2
  have hbm22 := hb2.lt
  have hy0 := hb2.cell 0
  simp only [List.getElem?_toArray, List.getElem?_cons_zero] at hy0
  have hblk2 := HBLK.out.fresh hF02
  have hsz2 := hF02.size
  clear hbi hF2 HB1 HF1 hbm2
  have HB2 := Lib.hid hb2
  have HF02 := Lib.hid hF02
  have HMI := Lib.hid hmi
  have HBLK2 := Lib.hid hblk2
  clear hb2 hF02 hmi hblk2
  go_upto_region 4 with (fail)
  go_loopw [6, 16] (fun v6 v16 wr => ∃ (k : Nat) (S R : List Fld) (A : Option Addr) (c : Nat), k ≤ fs.length ∧ v16 = .int .i64 k ∧ v6 = .slice A R.length c ∧ Hid (fs.take k = S ++ R) ∧ Hid (Shp (pl.map Prod.fst) (bd.length : Int) S R) ∧ Hid (App (New w2) wr 34 2 A R.length c (fvs R)) ∧
    Hid (Blk wr g t (C S)) ∧ Hid (MapIs wr bi str (cnts S)) ∧ Hid (Frm (fun k => (k = g ∨ k = bi) ∨ New w2 k) w2 wr)) (fun _ v16 _ => fs.length - (intOf v16).toNat)
  case atStart => exact ⟨0, [], [], none, 0, Nat.zero_le _, rfl, rfl, rfl, Shp.nil, App.none_, HBLK2.out, HMI.out, Frm.refl _ _⟩
  case round =>
    obtain ⟨k, S, R, A, c, hk, rfl, rfl, hSR, hShp, hA, hB, hM, hF⟩ := hrel
    have hNW : ∀ w', Frm (fun k => (k = g ∨ k = bi) ∨ New w2 k) w2 w' → Frm (fun k => k = g ∨ New w k) w w' := fun w' f => (HF02.out.mono (fun k hk => .inr hk)).trans (f.mono (fun k hk => by
      rcases hk with (hk | hk) | hk
      · exact .inl hk
      · right; unfold New; omega
      · right; unfold New at hk ⊢; omega))
    have hRl : R.length ≤ 64 := by
      have := congrArg List.length hSR.out
      rw [List.length_take, List.length_append] at this
      omega
    have HNW := Lib.hid hNW
    clear hNW
    by_cases hlt : k < fs.length
    · have hMr := HM.out wr (HNW.out wr hF.out)
      have hRd := hMr.r1
      simp only at hRd
      obtain ⟨gA, oA, rfl, hx⟩ := hRd.at_ (k := k * 2) (by rw [fvs_length]; omega)
      clear hx
      obtain ⟨hc1, hc2⟩ := fld_cells hRd k hlt
      have hsz := fsizes_mem (List.getElem_mem hlt)
      have hbadP : ps fs[k] = false → plainOk fs[k] (bd.length : Int) = false → Bad (pl.map Prod.fst) (bd.length : Int) fs := fun h1 h2 => bad_plain hlt h1 h2
      have hbadN : ps fs[k] = true → (fs[k].1 ∉ pl.map Prod.fst ∨ nameOk fs[k].1.tail = false ∨ valOk fs[k].2 = false) → Bad (pl.map Prod.fst) (bd.length : Int) fs := fun h1 h2 => bad_pseudo hlt h1 h2
      have hbadB : ps fs[k] = true → R ≠ [] → Bad (pl.map Prod.fst) (bd.length : Int) fs := fun h1 h2 => bad_behind hlt hSR.out hShp.out h1 h2
      have hbadT : ps fs[k] = true → R = [] → fs[k].1 ∈ S.map Prod.fst → Bad (pl.map Prod.fst) (bd.length : Int) fs := fun h1 h2 h3 => bad_twice hlt (by rw [hSR.out, h2, List.append_nil]) h1 h3
      have htk : fs.take (k + 1) = S ++ R ++ [fs[k]] := by rw [List.take_succ_eq_append_getElem hlt, hSR.out]
      generalize fs[k] = f at *
      obtain ⟨a, bw⟩ := f
      simp only [str] at hc1 hc2
      unfold fsize at hsz
      simp only at hsz hbadN hbadT
      have hgAr := World.block_lt_of_cell? _ _ hc1
      simp only at hgAr
      have hPs : ∀ w, Calls Tryd.prog 35 #[.string ⟨a.toArray⟩] w fun e w' => e = .returned (.bool (ps (a, bw))) ∧ w = w' := fun w => pseudo_any a w
      have hPl : ∀ w, Calls Tryd.prog 36 #[.agg #[.string ⟨a.toArray⟩, .string ⟨bw.toArray⟩], .int .i64 (bd.length : Int)] w fun e w' => e = .returned (.bool (plainOk (a, bw) (bd.length : Int))) ∧ Frm (New w) w w' := fun w => plain_any (a, bw) _ w (by simp only; omega) (by simp only; omega)
      obtain ⟨pf, hpf⟩ : ∃ pf, pf = ps (a, bw) := ⟨_, rfl⟩
      rw [← hpf] at hPs hbadP hbadN hbadB hbadT
      obtain ⟨pk, hpk⟩ : ∃ pk, pk = plainOk (a, bw) (bd.length : Int) := ⟨_, rfl⟩
      rw [← hpk] at hPl hbadP
      have ea : (⟨a.toArray⟩ : ByteArray).toList = a := mk_toList a
      have HMR := Lib.hid hMr
      have HRD := Lib.hid hRd
      have HBADP := Lib.hid hbadP
      have HBADN := Lib.hid hbadN
      have HBADB := Lib.hid hbadB
      have HBADT := Lib.hid hbadT
      have HTK := Lib.hid htk
      have HPL := Lib.hid hPl
      have HPS := Lib.hid hPs
      have HPF := Lib.hid hpf
      have HPK := Lib.hid hpk
      clear hMr hRd hbadP hbadN hbadB hbadT htk hPl hPs hpf hpk
      go_upto_region 6 with (first
        | (refine wpList_new rfl rfl zFld rfl ?_; intro w6 hb6 hF6 hs6)
        | (refine wpList_store_agg rfl rfl rfl (cs := #[.string ⟨a.toArray⟩, .string ⟨bw.toArray⟩]) rfl hb6 rfl (fld_one _ _) (by kernel_rfl) ?_; intro w7 hb7 hF7 hs7))
      obtain ⟨bx, hbx⟩ : ∃ bx, bx = wr.heap.size := ⟨_, rfl⟩
      rw [← hbx] at hb6 hb7 hs6 hF7 ⊢
      have hF67 : Frm (New wr) wr w7 := hF6.trans (hF7.mono (fun q e => by
        have e2 : q = bx := e
        unfold New; omega))
      have hsr := hF.out.size
      have hF27 := hF.out.then_new (fun k hk => .inr hk) hF67
      have hA7 := hA.out.fresh hF67
      have hBB7 := hB.out.fresh hF67
      have hM7 := hM.out.fresh hF67
      have hbl7 := hb7.lt
      have hbx2 : w2.heap.size ≤ bx := by omega
      clear hbx hb6 hF6 hs6 hF7 hs7 hF67 hc1 hc2 hA hB hM hF
      have hz0 := hb7.cell 0
      have hz1 := hb7.cell 1
      simp only [List.getElem?_toArray, List.getElem?_cons_zero, List.getElem?_cons_succ] at hz0 hz1
      have hb27 := HB2.out.keep hF27 (fun h => by rcases h with (h | h) | h; exact hbmg h; exact hbim h.symm; exact absurd hbm22 (Nat.not_lt.2 h))
      have hy0 := hb27.cell 0
      have hy1 := hb27.cell 1
      have hy2 := hb27.cell 2
      simp only [List.getElem?_toArray, List.getElem?_cons_zero, List.getElem?_cons_succ] at hy0 hy1 hy2
      have hbm7 := hb27.lt
      have HB7 := Lib.hid hb7
      have HF27 := Lib.hid hF27
      have HA7 := Lib.hid hA7
      have HBB7 := Lib.hid hBB7
      have HM7 := Lib.hid hM7
      have HB27 := Lib.hid hb27
      clear hb7 hF27 hA7 hBB7 hM7 hb27
      cases pf with
      | false =>
        cases pk with
        | false =>
          have hbad := HBADP.out rfl rfl
          have HBAD := Lib.hid hbad
          clear hbad
          go_wp2_with (first
            | (go_at_call 35; refine (HPS.out _).mono ?_; rintro e w' ⟨rfl, hw⟩; rw [← hw]; clear hw w')
            | (refine wpList_load_agg aFld rfl rfl rfl HB7.out rfl ?_))
          refine (HPL.out _).mono ?_
          rintro e w8 ⟨rfl, hF8⟩
          have HF8 := Lib.hid hF8
          clear hF8
          go_wp2_with (fail)
          rw [← HQ.out]
          exact ⟨HNW.out _ (HF27.out.then_new (fun k hk => .inr hk) HF8.out), .inr ⟨HBAD.out, rfl⟩⟩
        | true =>
          go_wp2_with (first
            | (go_at_call 35; refine (HPS.out _).mono ?_; rintro e w' ⟨rfl, hw⟩; rw [← hw]; clear hw w')
            | (refine wpList_load_agg aFld rfl rfl rfl HB7.out rfl ?_))
          refine (HPL.out _).mono ?_
          rintro e w8 ⟨rfl, hF8⟩
          have hb8 := HB7.out.fresh hF8
          have hA8 := HA7.out.fresh hF8
          have hBB8 := HBB7.out.fresh hF8
          have hM8 := HM7.out.fresh hF8
          have hF28 := HF27.out.then_new (fun k hk => .inr hk) hF8
          have hbl8 := hb8.lt
          have hs28 := hF28.size
          clear hF8 hz0 hz1 hy0 hy1 hy2
          have HB8 := Lib.hid hb8
          have HA8 := Lib.hid hA8
          have HBB8 := Lib.hid hBB8
          have HM8 := Lib.hid hM8
          have HF28 := Lib.hid hF28
          clear hb8 hA8 hBB8 hM8 hF28
          go_wp2_with (first
            | (refine wpList_load_agg aFld rfl rfl rfl HB8.out rfl ?_)
            | (at_builtin; refine wpList_append_lit flds rfl rfl rfl HA8.out (Up.new.of hs28) rfl rfl (fld_one _ _) (by omega) ?_; intro A9 c9 w9 hA9 hF9 _ _; have HA9 := Lib.hid hA9; have HF9 := Lib.hid hF9; clear hA9 hF9))
          go_roundw
          case rel =>
            refine ⟨k + 1, S, R ++ [(a, bw)], A9, c9, by omega, by go_num, by rw [List.length_append]; rfl, ?_, hShp.out.rest HPF.out.symm HPK.out.symm, ?_, ?_, ?_, ?_⟩
            · show _ = _
              rw [HTK.out, List.append_assoc]
            · have h9 := HA9.out
              rw [fvs_append, List.length_append]
              exact h9
            · exact HBB8.out.keep HF9.out (fun h => by unfold New at h; omega)
            · exact HM8.out.keep HF9.out (fun h => by unfold New at h; omega)
            · exact HF28.out.trans (HF9.out.mono (fun q h => .inr h))
          case measure => simp [intOf]; omega
      | true =>
        have hmap7 : MapIs w7 b str (ptrs g pl) := (HMAP.out.fresh HF02.out).keep HF27.out (fun h => by
          rcases h with (h | h) | h
          · exact hbg h
          · exact hbib h.symm
          · unfold New at h; omega)
        obtain ⟨ptr, hptr⟩ : ∃ p, p = (getE a (ptrs g pl)).getD (.pointer none) := ⟨_, rfl⟩
        obtain ⟨okb, hokb⟩ : ∃ p, p = (getE a (ptrs g pl)).isSome := ⟨_, rfl⟩
        obtain ⟨q, hqv, hqw⟩ : ∃ q : Nat, (getE a (cnts S)).getD (.int .i64 0) = .int .i64 (q : Int) ∧ q = if a ∈ S.map Prod.fst then 1 else 0 := by
          rw [cnts_get]
          by_cases h : a ∈ S.map Prod.fst
          · exact ⟨1, by rw [if_pos h]; rfl, by rw [if_pos h]⟩
          · exact ⟨0, by rw [if_neg h]; rfl, by rw [if_neg h]⟩
        have hlk1 := run_lookup skey uPs zPtr hmap7 a true
        have hlk2 := run_lookup skey uIn zInt HM7.out a false
        rw [← hptr, ← hokb] at hlk1
        rw [hqv] at hlk2
        simp only [str, if_true, Bool.false_eq_true, if_false] at hlk1 hlk2
        have hq1 : (q : Int) ≤ 1 := by rw [hqw]; split <;> omega
        have HMAP7 := Lib.hid hmap7
        have HPTR := Lib.hid hptr
        have HOKB := Lib.hid hokb
        have HQV := Lib.hid hqv
        have HQW := Lib.hid hqw
        clear hmap7 hptr hokb hqv hqw
        go_upto_region 12 with (first
          | (go_at_call 35; refine (HPS.out _).mono ?_; rintro e w' ⟨rfl, hw⟩; rw [← hw]; clear hw w')
          | (refine wpList_update (k := a) skey uIn rfl rfl rfl rfl HM7.out ?_; intro w8 hM8 hF8 hs8))
        have hMM8 : MapIs w8 bi str (putE a (.int .i64 ((q : Int) + 1)) (cnts S)) := hM8
        clear hM8
        have hF28 := HF27.out.trans (hF8.mono (fun q h => .inl (.inr h)))
        have hb8 := HB7.out.keep hF8 (fun h => by have h : bx = bi := h; omega)
        have hb28 := HB27.out.keep hF8 (fun h => by have h : bm = bi := h; omega)
        have hBB8 := HBB7.out.keep hF8 (fun h => by have h : g = bi := h; omega)
        have hA8 : App (New w2) w8 34 2 A R.length c (fvs R) := HA7.out.keep hF8 (fun q h e => by have e : q = bi := e; have := HA7.out.inM _ h; unfold New at this; omega)
        have hlk3 := run_lookup skey uIn zInt hMM8 a false
        rw [getE_put, if_pos rfl] at hlk3
        simp only [str, Bool.false_eq_true, if_false, Option.getD_some] at hlk3
        clear hlk1 hlk2 hz0 hz1 hy0 hy1 hy2
        have hz0 := hb8.cell 0
        have hz1 := hb8.cell 1
        simp only [List.getElem?_toArray, List.getElem?_cons_zero, List.getElem?_cons_succ] at hz0 hz1
        have hy0 := hb28.cell 0
        have hy1 := hb28.cell 1
        have hy2 := hb28.cell 2
        simp only [List.getElem?_toArray, List.getElem?_cons_zero, List.getElem?_cons_succ] at hy0 hy1 hy2
        have hbl8 := hb8.lt
        have hbm8 := hb28.lt
        have hs28 := hF28.size
        have hnt : nameOk a.tail = false → Hid (Bad (pl.map Prod.fst) (bd.length : Int) fs) := fun h => Lib.hid (HBADN.out trivial (.inr (.inl h)))
        have hvt : valOk bw = false → Hid (Bad (pl.map Prod.fst) (bd.length : Int) fs) := fun h => Lib.hid (HBADN.out trivial (.inr (.inr h)))
        have hnm : a.head? = some 58 := of_decide_eq_true HPF.out.symm
        have hBr : ∀ w, Calls Tryd.prog 38 #[.string ⟨a.toArray⟩] w fun e w' => e = .returned (.string ⟨a.tail.toArray⟩) ∧ w = w' := fun w => by
          have h := bare_any a w
          rw [if_pos hnm] at h
          exact h
        have hNm2 : ∀ w, Calls Tryd.prog 37 #[.string ⟨a.tail.toArray⟩] w fun e w' => e = .returned (.bool (nameOk a.tail)) ∧ w = w' := fun w => name_any _ w (by rw [List.length_tail]; omega)
        have hVl : ∀ w, Calls Tryd.prog 39 #[.string ⟨bw.toArray⟩] w fun e w' => e = .returned (.bool (valOk bw)) ∧ w = w' := fun w => value_any _ w (by omega)
        obtain ⟨nt, hnt2⟩ : ∃ nt, nt = nameOk a.tail := ⟨_, rfl⟩
        obtain ⟨vt, hvt2⟩ : ∃ vt, vt = valOk bw := ⟨_, rfl⟩
        rw [← hnt2] at hnt hNm2
        rw [← hvt2] at hvt hVl
        have HMM8 := Lib.hid hMM8
        have HF8 := Lib.hid hF8
        have HF28 := Lib.hid hF28
        have HB8 := Lib.hid hb8
        have HB28 := Lib.hid hb28
        have HBB8 := Lib.hid hBB8
        have HA8 := Lib.hid hA8
        have HNT := Lib.hid hnt
        have HVT := Lib.hid hvt
        have HNT2 := Lib.hid hnt2
        have HVT2 := Lib.hid hvt2
        have HNM := Lib.hid hnm
        have HBR := Lib.hid hBr
        have HNM2 := Lib.hid hNm2
        have HVL := Lib.hid hVl
        clear hMM8 hF8 hF28 hb8 hb28 hBB8 hA8 hnt hvt hnt2 hvt2 hnm hBr hNm2 hVl
        have hend : Hid (Bad (pl.map Prod.fst) (bd.length : Int) fs) → Q (.returned (.tuple #[.slice none 0 0, .bool false])) w8 := fun h => by
          rw [← HQ.out]
          exact ⟨HNW.out _ HF28.out, .inr ⟨h.out, rfl⟩⟩
        have HEND := Lib.hid hend
        clear hend
        cases okb with
        | false =>
          go_wp2_with (fail)
          refine HEND.out (Lib.hid (HBADN.out trivial (.inl (fun h => ?_))))
          obtain ⟨i, hi1, hi2⟩ := ptrs_yes (g := g) h
          have := HOKB.out
          rw [hi2] at this
          cases this
        | true =>
          have hin : a ∈ pl.map Prod.fst := by
            refine Classical.byContradiction fun h => ?_
            have := HOKB.out
            rw [ptrs_no h] at this
            cases this
          by_cases hR0 : R = []
          · subst hR0
            by_cases hq1 : q = 1
            · subst hq1
              go_wp2_with (fail)
              refine HEND.out (Lib.hid (HBADT.out trivial trivial (Classical.byContradiction fun h => ?_)))
              have := HQW.out
              rw [if_neg h] at this
              cases this
            · have hns : a ∉ S.map Prod.fst := fun h => hq1 (by rw [HQW.out, if_pos h])
              have hq0 : q = 0 := by rw [HQW.out, if_neg hns]
              subst hq0
              obtain ⟨i, hi1, hi2⟩ := ptrs_yes (g := g) hin
              have hpe : ptr = .pointer (some ⟨g, i, none⟩) := by rw [HPTR.out, hi2]; rfl
              subst hpe
              obtain ⟨hCe, hCi⟩ := HC.out S (a, bw) i hi1 hns
              have hgc := HBB8.out.cell i
              rw [Array.getElem?_eq_getElem hCi] at hgc
              have hgf := HBB8.out.frozen i
              generalize (C S)[i] = old at *
              have HCE := Lib.hid hCe
              have HNS := Lib.hid hns
              have HI2 := Lib.hid hi2
              have HI1 := Lib.hid hi1
              clear hCe hns hi2 hi1
              cases nt with
              | false =>
                go_wp2_with (first
                  | (go_at_call 38; refine (HBR.out _).mono ?_; rintro e w' ⟨rfl, hw⟩; rw [← hw]; clear hw w')
                  | (go_at_call 37; refine (HNM2.out _).mono ?_; rintro e w' ⟨rfl, hw⟩; rw [← hw]; clear hw w'))
                exact HEND.out (HNT.out trivial)
              | true =>
                cases vt with
                | false =>
                  go_wp2_with (first
                    | (go_at_call 38; refine (HBR.out _).mono ?_; rintro e w' ⟨rfl, hw⟩; rw [← hw]; clear hw w')
                    | (go_at_call 37; refine (HNM2.out _).mono ?_; rintro e w' ⟨rfl, hw⟩; rw [← hw]; clear hw w')
                    | (go_at_call 39; refine (HVL.out _).mono ?_; rintro e w' ⟨rfl, hw⟩; rw [← hw]; clear hw w'))
                  exact HEND.out (HVT.out trivial)
                | true =>
                  go_wp2_with (first
                    | (go_at_call 38; refine (HBR.out _).mono ?_; rintro e w' ⟨rfl, hw⟩; rw [← hw]; clear hw w')
                    | (go_at_call 37; refine (HNM2.out _).mono ?_; rintro e w' ⟨rfl, hw⟩; rw [← hw]; clear hw w')
                    | (go_at_call 39; refine (HVL.out _).mono ?_; rintro e w' ⟨rfl, hw⟩; rw [← hw]; clear hw w'))
                  go_roundw
                  case rel =>
                    have hset : Frm (· = g) w8 (w8.setCell ⟨g, i, none⟩ (str bw)) := Frm.setCell (M := fun q => q = g) (Frm.refl _ _) rfl _
                    refine ⟨k + 1, S ++ [(a, bw)], [], A, c, by omega, by go_num, rfl, ?_, ?_, ?_, ?_, ?_, ?_⟩
                    · show _ = _
                      rw [HTK.out, List.append_nil, List.append_nil]
                    · exact hShp.out.more HPF.out.symm hin HNT2.out.symm HVT2.out.symm HNS.out
                    · exact HA8.out.keep hset (fun q h e => by have e : q = g := e; have := HA8.out.inM _ h; unfold New at this; omega)
                    · have h := HBB8.out.set_ i (str bw)
                      rw [← HCE.out] at h
                      exact h
                    · have h := HMM8.out.keep hset (fun h => hbig h)
                      rw [← cnts_put S (a, bw) HNS.out]
                      exact h
                    · exact HF28.out.trans (hset.mono (fun q h => .inl (.inl h)))
                  case measure => simp [intOf]; omega
          · have hR1 : (0 : Int) < (R.length : Int) := by
              have := List.length_pos_iff.2 hR0
              omega
            go_wp2_with (fail)
            exact HEND.out (Lib.hid (HBADB.out trivial hR0))
    · have hke : k = fs.length := by omega
      subst hke
      rw [List.take_length] at hSR
      have hF2r := hF.out
      have hb2r := HB2.out.keep hF2r (fun h => by rcases h with (h | h) | h; exact hbmg h; exact hbim h.symm; exact absurd hbm22 (Nat.not_lt.2 h))
      have hy0 := hb2r.cell 0
      have hy1 := hb2r.cell 1
      have hy2 := hb2r.cell 2
      simp only [List.getElem?_toArray, List.getElem?_cons_zero, List.getElem?_cons_succ] at hy0 hy1 hy2
      have hbmr := hb2r.lt
      have hMr := HM.out wr (HNW.out wr hF2r)
      have hRt := hMr.r3
      simp only at hRt
      have hTr := trailers_any ts A3 c3 wr hRt hs3 hsl3
      have HB2R := Lib.hid hb2r
      have HMR := Lib.hid hMr
      have HRT := Lib.hid hRt
      clear hb2r hMr hRt
      go_wp2_with (fail)
      refine hTr.mono ?_
      rintro e w' ⟨rfl, hF8⟩
      go_wp2_with (fail)
      rw [← HQ.out]
      exact ⟨HNW.out _ (hF2r.then_new (fun k hk => .inr hk) hF8), .inl ⟨S, R, A, c, hSR.out, hShp.out, rfl, (hA.out.fresh hF8).mono (fun k hk => by unfold New at hk ⊢; omega), hB.out.fresh hF8⟩⟩
end Go.Proofs.YtpojejdddgdjdaaDoor.M
