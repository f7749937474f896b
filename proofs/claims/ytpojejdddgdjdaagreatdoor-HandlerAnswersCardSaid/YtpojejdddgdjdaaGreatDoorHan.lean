/- HandlerAnswers: the walk. No condition but the library's table. -/
import Derived.BigQuiet
import Derived.Deep.CutBlock
import Derived.Lib.Hide
import Derived.IntWalk
import Derived.Test.YtpojejdddgdjdaaGreatDoorHam
import Derived.Test.YtpojejdddgdjdaaGreatDoorHal
import Derived.Test.YtpojejdddgdjdaaGreatDoorSrt
import Derived.Test.YtpojejdddgdjdaaGreatDoorSaz
import Derived.Test.YtpojejdddgdjdaaGreatDoorSro
namespace Go.Proofs.YtpojejdddgdjdaaGreatDoor.M
open Go.ChangeShapes Go.WideShapes Go.ChangeAt Go.RowKit

def MV.cl (m : MV) : List Value := [.slice m.A1 m.fs.length m.c1, .slice m.A2 m.b.length m.c2, .slice m.A3 m.ts.length m.c3]
instance : Inhabited MV := ⟨⟨none, 0, [], none, 0, [], none, 0, []⟩⟩
theorem msgs_trod {W : World} {H : Type} {en : TypeId × Value → H} {base : Nat} {spare : Nat → Bool} {held : Bool} {fuel : Nat} {v : Value} {x : DataW H × List MemPlace} (h : DataW.trod en Tryz.prog W base spare held fuel 22 [v] = some x) (hw : ∀ q ∈ x.1.weights Tryz.prog 22, q ≤ reachBytes) :
    ∃ (A : Option Addr) (n c : Nat) (l : List MV), v = .slice A n c ∧ AIn W MV.cl (MArg W) A n c l :=
  rows_trod Tryz.underlying22 (k := 3) (by kernel_rfl) (by omega) MV.cl (fun _ => rfl) (MArg W) (fun fu cs y hy hq => by
    obtain ⟨m, e, hm⟩ := msg_trod fu cs y hy hq
    exact ⟨m, e, hm⟩) h hw
theorem msg_cells {w : World} {g off : Nat} {l : List MV} (h : Rd w (some ⟨g, off, none⟩) (l.flatMap MV.cl)) (i : Nat) (hi : i < l.length) :
    w.cell? ⟨g, off + i * 3, none⟩ = some (.slice l[i].A1 l[i].fs.length l[i].c1) ∧ w.cell? ⟨g, off + i * 3 + 1, none⟩ = some (.slice l[i].A2 l[i].b.length l[i].c2) ∧ w.cell? ⟨g, off + i * 3 + 2, none⟩ = some (.slice l[i].A3 l[i].ts.length l[i].c3) := by
  have key := elem_cells MV.cl 3 (fun _ => rfl) h i hi
  exact ⟨key 0 _ (by omega) rfl, key 1 _ (by omega) rfl, key 2 _ (by omega) rfl⟩
theorem ansF_cells {w : World} {g o st n : Nat} {more : List Fld} (h : Rd w (some ⟨g, o, none⟩) (fvs (ansF st n more))) :
    w.cell? ⟨g, o, none⟩ = some (str bSt) ∧ w.cell? ⟨g, o + 2, none⟩ = some (str bCL) ∧ w.cell? ⟨g, o + 3, none⟩ = some (str (decB n)) ∧ w.cell? ⟨g, o + (more.length + 2) * 2, none⟩ = some (str bAlt) ∧ w.cell? ⟨g, o + (more.length + 2) * 2 + 1, none⟩ = some (str bH3) := by
  have hl : (ansF st n more).length = more.length + 2 + 1 := by simp [ansF]
  have h0 := fld_cells h 0 (by omega)
  have h1 := fld_cells h 1 (by omega)
  have h2 := fld_cells h (more.length + 2) (by omega)
  have e0 : (ansF st n more)[0]'(by omega) = (bSt, decB st) := rfl
  have e1 : (ansF st n more)[1]'(by omega) = (bCL, decB n) := rfl
  have e2 : (ansF st n more)[more.length + 2]'(by omega) = (bAlt, bH3) := by
    have : (ansF st n more)[more.length + 2]? = some (bAlt, bH3) := by
      unfold ansF
      rw [List.getElem?_append_right (by simp)]
      simp
    rw [List.getElem?_eq_getElem (by omega)] at this
    exact Option.some.inj this
  rw [e0] at h0
  rw [e1] at h1
  rw [e2] at h2
  exact ⟨h0.1, h1.1, h1.2, h2.1, h2.2⟩
set_option maxRecDepth 100000 in
set_option maxHeartbeats 4000000 in
theorem answers_walk (A0 : Option Addr) (n0 c0 : Nat) (l : List MV) (cl : Int) (W : World) (hl : AIn W MV.cl (MArg W) A0 n0 c0 l) (hcl : (Lit.int .i64 cl).wf = true) (hT : PT W) :
    Calls Tryz.prog 3 #[.slice A0 n0 c0, .int .i64 cl] W fun e w' => e = .returned (.bool true) ∧ Below W.heap.size W w' := by
  have hcl2 : -9223372036854775808 ≤ cl ∧ cl ≤ 9223372036854775807 := by simp only [Lit.wf, decide_eq_true_eq, Bool.and_eq_true] at hcl; exact hcl
  clear hcl
  obtain ⟨rfl, hR0, hok⟩ : n0 = l.length ∧ Rd W A0 (l.flatMap MV.cl) ∧ (∀ m ∈ l, MArg W m) := ⟨hl.len, hl.rd, hl.ok⟩
  clear hl
  have hk := hknown_any W hT
  have hnw := fun w' => new_any w'
  have HK := Lib.hid hk
  have HR0 := Lib.hid hR0
  have HOK := Lib.hid hok
  have HNW := Lib.hid hnw
  have HCL2 := Lib.hid hcl2
  clear hk hR0 hok hnw hcl2
  go_enter Tryz.func3, Tryz.ntmps3
  go_upto_region 3 with (go_at_call 5; refine HK.out.mono ?_; rintro e w1 ⟨rfl, hF1⟩)
  by_cases h20 : (20 : Int) < l.length
  · go_wp2_with (fail)
    go_ret
    exact ⟨rfl, hF1.below⟩
  clear HK
  go_upto_region 7 with (go_at_call 6; refine (HNW.out _).mono ?_; rintro e w2 ⟨p, bm, rfl, hK2, hp2, hb2, hF2⟩)
  have hF02 := hF1.then_new Up.new hF2
  have hpW : W.heap.size ≤ p := by have := hF1.size; omega
  have hbW : W.heap.size ≤ bm := by have := hF1.size; omega
  clear hF1 hF2 hp2 hb2 HNW
  have HK2 := Lib.hid hK2
  have HF02 := Lib.hid hF02
  clear hK2 hF02
  go_loopw [6] (fun v6 wr => ∃ (i : Nat) (L : List (Bytes × SV)), i ≤ l.length ∧ v6 = .int .i64 i ∧ Hid (KAt wr p bm L) ∧ Hid (StoOk (sto L)) ∧ Hid (Frm (New W) W wr)) (fun v6 _ => l.length - (intOf v6).toNat)
  case atStart => exact ⟨0, [], Nat.zero_le _, rfl, HK2, Lib.hid (fun x h => by cases h), HF02⟩
  case round =>
    obtain ⟨i, L, hi, rfl, hKr, hSr, hFr⟩ := hrel
    rename World => wr
    by_cases hil : i < l.length
    · obtain ⟨gl, ol, rfl, hx⟩ := (HR0.out.fresh hFr.out).at_ (k := i * 3) (by rw [flatL_length MV.cl 3 (fun _ => rfl)]; omega)
      clear hx
      obtain ⟨hc0, hc1, hc2⟩ := msg_cells (HR0.out.fresh hFr.out) i hil
      have hma := HOK.out _ (List.getElem_mem hil)
      generalize l[i] = m at *
      have hgl := World.block_lt_of_cell? _ _ hc0
      simp only at hgl
      have hmr := hma.rd.fresh hFr.out
      have hlm : Calls Tryz.prog 7 #[.agg #[.slice m.A1 m.fs.length m.c1, .slice m.A2 m.b.length m.c2, .slice m.A3 m.ts.length m.c3]] wr fun e w' => e = .returned (.bool (lightM m)) ∧ Frm (New wr) wr w' := lightM_any m wr hmr hma.ok
      have hcf : ∀ w', Frm (New wr) wr w' → w'.cell? ⟨gl, ol + i * 3, none⟩ = some (.slice m.A1 m.fs.length m.c1) ∧ w'.cell? ⟨gl, ol + i * 3 + 1, none⟩ = some (.slice m.A2 m.b.length m.c2) ∧ w'.cell? ⟨gl, ol + i * 3 + 2, none⟩ = some (.slice m.A3 m.ts.length m.c3) ∧ gl < w'.heap.size := fun w' f => ⟨by rw [f.cell (p := ⟨gl, ol + i * 3, none⟩) (by unfold New; simp only; omega)]; exact hc0, by rw [f.cell (p := ⟨gl, ol + i * 3 + 1, none⟩) (by unfold New; simp only; omega)]; exact hc1, by rw [f.cell (p := ⟨gl, ol + i * 3 + 2, none⟩) (by unfold New; simp only; omega)]; exact hc2, Nat.lt_of_lt_of_le hgl f.size⟩
      have HCF := Lib.hid hcf
      clear hcf
      cases hlm2 : lightM m with
      | false =>
        rw [hlm2] at hlm
        clear hlm2
        have HLM := Lib.hid hlm
        have HMR := Lib.hid hmr
        clear hlm hmr
        go_wp2_with (go_at_call 7; refine HLM.out.mono ?_; rintro e w3 ⟨rfl, hF3⟩)
        go_ret
        exact ⟨rfl, (hFr.out.then_new Up.new hF3).below⟩
      | true =>
        rw [hlm2] at hlm
        obtain ⟨hsz, hsb, hst, hsf⟩ := lightM_sz hlm2
        have hlf : fsizes m.fs ≤ 5240 ∧ fsizes m.ts ≤ 5240 := by
          have h := hlm2
          unfold lightM at h
          simp only [Bool.and_eq_true] at h
          exact ⟨(light_size h.1).1, (light_size h.2.1).1⟩
        obtain ⟨hlf, hlt⟩ := hlf
        clear hlm2
        have HLM := Lib.hid hlm
        have HMR := Lib.hid hmr
        clear hlm hmr
        go_upto_region 11 with (go_at_call 7; refine HLM.out.mono ?_; rintro e w3 ⟨rfl, hF3⟩)
        obtain ⟨hd0, hd1, hd2, hgl3⟩ := HCF.out w3 hF3
        have hof : Calls Tryz.prog 8 #[.agg #[.slice m.A1 m.fs.length m.c1, .slice m.A2 m.b.length m.c2, .slice m.A3 m.ts.length m.c3]] w3 (RqR w3 m) := rof_any m w3 (HMR.out.fresh hF3) hsz
        have hF03 := hFr.out.then_new Up.new hF3
        have hK3 := hKr.out.fresh hF3
        clear hc0 hc1 hc2 HLM HMR hF3
        obtain ⟨rc, hrc⟩ : ∃ rc, rc = rcls m := ⟨_, rfl⟩
        unfold RqR at hof
        rw [← hrc] at hof
        have HOF := Lib.hid hof
        have HF03 := Lib.hid hF03
        have HK3 := Lib.hid hK3
        have HRC := Lib.hid hrc
        clear hof hF03 hK3 hrc
        go_upto_region 12 with (first
          | (go_at_call 8; refine HOF.out.mono ?_; intro e w4 hR; obtain ⟨⟨p1, p2, p3, p4, a1, c1, f, a2, c2, b, a3, c3, t⟩, rfl, hin, hq, hF4⟩ := hR; simp only [RV.cells])
          | (refine wpList_new rfl rfl zReq rfl ?_; intro w5 hb5 hF5 hs5)
          | (refine wpList_store_agg rfl rfl rfl rfl hb5 rfl (req_one _ _ _ _ _ _ _ _ _ _ _ _ _) (by kernel_rfl) ?_; intro w6 hb6 hF6 hs6))
        obtain ⟨g7, hg7⟩ : ∃ g7, g7 = w4.heap.size := ⟨_, rfl⟩
        rw [← hg7] at hb6 hb5 hF6 ⊢
        have hF46 : Frm (New w4) w4 w6 := hF5.trans (hF6.mono (fun q e => by have e2 : q = g7 := e; unfold New; omega))
        have hF36 := hF4.then_new Up.new hF46
        have hK6 := HK3.out.fresh hF36
        have hF06 := HF03.out.then_new Up.new hF36
        have hin6 := hin.fresh hF46
        clear hb5 hF5 hs5 hF6 hs6 hF46 hF4 hin hg7 HOF hd0 hd1 hd2 HK3 HF03 hF36
        have HB6 := Lib.hid hb6
        clear hb6
        have HK6 := Lib.hid hK6
        have HF06 := Lib.hid hF06
        have HIN6 := Lib.hid hin6
        have HQ := Lib.hid hq
        clear hK6 hF06 hin6 hq
        by_cases h0 : rc = 0
        · subst h0
          have hqe : rq m = ⟨p1, p2, p3, p4, f, b, t⟩ := HQ.out.symm
          have hgd := good_rq HRC.out.symm
          have hff : f = spR m.fs := by
            have h2 := hqe
            unfold rq at h2
            rw [if_pos HRC.out.symm] at h2
            simp only [RQ.mk.injEq] at h2
            exact h2.2.2.2.2.1.symm
          have hfl : f.length ≤ 70 := by
            have h2 := congrArg List.length (sp_app m.fs)
            rw [List.length_append] at h2
            rw [hff]
            omega
          rw [hqe] at hgd
          simp only at hgd
          obtain ⟨e1, e2, e3, e4, e5, e6, e7, e8, e9, e10⟩ := hgd
          have hvl : ∀ nm, (val (spS m.fs) nm).length ≤ 5240 := fun nm => by
            rcases (e7 nm).2 with h | h
            · rw [h]; exact Nat.zero_le _
            · have := fsizes_mem h
              unfold fsize at this
              simp only at this
              omega
          have hl1 : p1.length ≤ 5240 := by rw [(e7 []).1]; exact hvl _
          have hl2 : p2.length ≤ 5240 := by rw [e9]; exact hvl _
          have hl3 : p3.length ≤ 5240 := by rw [e10]; exact hvl _
          have hl4 : p4.length ≤ 5240 := by rw [e8]; exact hvl _
          have hbl : b.length ≤ 8192 := by rw [e1]; exact e3
          have htl : t.length ≤ 70 := by rw [e2]; exact hst
          have hli : Calls Tryz.prog 9 #[.agg #[.string ⟨p1.toArray⟩, .string ⟨p2.toArray⟩, .string ⟨p3.toArray⟩, .string ⟨p4.toArray⟩, .slice a1 f.length c1, .slice a2 b.length c2, .slice a3 t.length c3]] w6 (LtR w6) := hlight_any ⟨p1, p2, p3, p4, a1, c1, f, a2, c2, b, a3, c3, t⟩ w6 HIN6.out (fun x hx => hma.ok.o1 x (e4 x hx).1) (fun x hx => hma.ok.o3 x (by rw [← e2]; exact hx)) (by show p1.length ≤ _; omega) (by show p2.length ≤ _; omega) (by show p3.length ≤ _; omega) (by show p4.length ≤ _; omega) (by show b.length ≤ _; omega)
          obtain ⟨hAns, hSto⟩ := handle_answers (sto L) ⟨p1, p2, p3, p4, f, b, t⟩ hSr.out (by show b.length ≤ _; omega) (fun x hx => (e4 x hx).2) e5 e6 (fun x hx => by have := fsizes_mem (e4 x hx).1; omega) ⟨by show fsizes t ≤ _; rw [e2]; omega, htl⟩ (by show p4.length ≤ _; omega)
          have hha : ∀ w', Frm (New w6) w6 w' → Calls Tryz.prog 10 #[.pointer (some ⟨p, 0, none⟩), .agg #[.string ⟨p1.toArray⟩, .string ⟨p2.toArray⟩, .string ⟨p3.toArray⟩, .string ⟨p4.toArray⟩, .slice a1 f.length c1, .slice a2 b.length c2, .slice a3 t.length c3]] w' (KeyedR w' p bm L (handle (sto L) ⟨p1, p2, p3, p4, f, b, t⟩)) := fun w' fr => handle_any ⟨p1, p2, p3, p4, a1, c1, f, a2, c2, b, a3, c3, t⟩ w' p bm L (HK6.out.fresh fr) (HIN6.out.fresh fr) (hT.fresh (HF06.out.then_new Up.new fr)) (by show f.length ≤ _; omega) (by show b.length ≤ _; omega) (by show t.length ≤ _; omega) (by show p4.length ≤ _; omega)
          generalize handle (sto L) ⟨p1, p2, p3, p4, f, b, t⟩ = res at *
          have hb6l := HB6.out.lt
          have hb6c := HB6.out
          have hy0 := hb6c.cell 0
          have hy1 := hb6c.cell 1
          have hy2 := hb6c.cell 2
          have hy3 := hb6c.cell 3
          have hy4 := hb6c.cell 4
          have hy5 := hb6c.cell 5
          have hy6 := hb6c.cell 6
          simp only [List.getElem?_toArray, List.getElem?_cons_zero, List.getElem?_cons_succ] at hy0 hy1 hy2 hy3 hy4 hy5 hy6
          clear hb6c e1 e2 e4 e5 e6 e7 e8 e9 e10 hqe hff hvl HQ HRC
          have HLI := Lib.hid hli
          have HANS := Lib.hid hAns
          have HSTO := Lib.hid hSto
          have HHA := Lib.hid hha
          clear hli hAns hSto hha
          go_wp2_with (fail)
          refine HLI.out.mono ?_
          rintro e w7 ⟨v, rfl, hF7⟩
          have hK7 := HK6.out.fresh hF7
          have hF07 := HF06.out.then_new Up.new hF7
          cases v with
          | false =>
            clear hy0 hy1 hy2 hy3 hy4 hy5 hy6
            have HK7 := Lib.hid hK7
            have HF07 := Lib.hid hF07
            clear hK7 hF07
            go_wp2_with (fail)
            go_roundw
            case rel => exact ⟨i + 1, L, by omega, by go_num, HK7, hSr, HF07⟩
            case measure => simp [intOf]; omega
          | true =>
            have hb7 := HB6.out.fresh hF7
            have hha7 := HHA.out w7 hF7
            clear hy0 hy1 hy2 hy3 hy4 hy5 hy6 HB6 HK6 HF06 HIN6 HHA hF7
            have HK7 := Lib.hid hK7
            have HF07 := Lib.hid hF07
            have HB7 := Lib.hid hb7
            have HHA7 := Lib.hid hha7
            clear hK7 hF07 hb7 hha7
            go_upto_region 14 with (first
              | (refine wpList_load_agg agR rfl rfl rfl HB7.out rfl ?_)
              | (go_at_call 10; refine HHA7.out.mono ?_; rintro e w8 ⟨⟨D1, d1, F2, D2, d2, B2, D3, d3, T2⟩, L', rfl, hm8, hK8, hs8, ho8⟩; simp only [MV.cells])
              | (refine wpList_new rfl rfl zMsg rfl ?_; intro w9 hb9 hF9 hs9)
              | (refine wpList_store_agg rfl rfl rfl rfl hb9 rfl (msg_one _ _ _ _ _ _ _ _ _) (by kernel_rfl) ?_; intro w10 hb10 hF10 hs10))
            obtain ⟨g9, hg9⟩ : ∃ g9, g9 = w8.heap.size := ⟨_, rfl⟩
            rw [← hg9] at hb9 hb10 hF10 ⊢
            have hF810 : Frm (New w8) w8 w10 := hF9.trans (hF10.mono (fun q e => by have e2 : q = g9 := e; unfold New; omega))
            have hm10 := hm8.fresh hF810
            have hK10 := hK8.fresh hF810
            have hFm : Frm (fun z => z = bm ∨ New w7 z) w7 w10 := hm10.frm
            have hlb7 := HK7.out.map.lt
            have hg7l := HB7.out.lt
            have hb710 := HB7.out.keep hFm (fun e => by
              rcases e with e | e
              · have := HK7.out.map
                obtain ⟨es, ck, hb, _⟩ := this
                have h1 := HB7.out
                unfold Blk at h1
                rw [e, hb] at h1
                cases h1
              · unfold New at e; omega)
            have hF010 : Frm (New W) W w10 := HF07.out.trans (hFm.mono (fun q hq => by have := HF07.out.size; unfold New at hq ⊢; omega))
            have hSt' : StoOk (sto L') := by rw [hs8]; exact HSTO.out
            obtain ⟨a, ha⟩ : ∃ a, a = res.1 := ⟨_, rfl⟩
            rw [← ha] at hm10
            have hA := HANS.out
            rw [← ha] at hA
            obtain ⟨⟨st, n, more, hfs, hml, hn⟩, hhead, hgoodA⟩ := hA
            have hfe := hm10.fs
            have hbe := hm10.b
            have hte := hm10.ts
            simp only at hfe hbe hte
            rw [hfs] at hfe
            have hRF := hm10.min.r1
            have hRB := hm10.min.r2
            have hRT := hm10.min.r3
            simp only at hRF hRB hRT
            rw [hfe] at hRF
            have hN : F2.length = (more.length + 2) + 1 := by rw [hfe]; simp [ansF]
            obtain ⟨gF, oF, rfl, hx0⟩ := hRF.at_ (k := 0) (by rw [fvs_length, ← hfe, hN]; omega)
            obtain ⟨hc0, hc2, hc3, hcl0, hcl1⟩ := ansF_cells hRF
            have hgF := World.block_lt_of_cell? _ _ hx0
            simp only at hgF
            obtain ⟨K, hKK⟩ : ∃ K, K = more.length + 2 := ⟨_, rfl⟩
            rw [← hKK] at hN hcl0 hcl1
            have hK2 : (2 : Int) ≤ K := by omega
            have hK3 : K ≤ 3 := by omega
            have hlB10 := hb10.lt
            have hlb710 := hb710.lt
            simp only [str, bSt, bCL, bAlt, bH3] at hc0 hc2 hc3 hcl0 hcl1
            have HB10 := Lib.hid hb10
            have hv0 := hb10.cell 0
            have hv1 := hb10.cell 1
            have hv2 := hb10.cell 2
            simp only [List.getElem?_toArray, List.getElem?_cons_zero, List.getElem?_cons_succ] at hv0 hv1 hv2
            rw [hN] at hv0
            have hy0 := hb710.cell 0
            simp only [List.getElem?_toArray, List.getElem?_cons_zero] at hy0
            clear hb10 hx0 hb9 hF9 hs9 hF10 hs10 hg9 hm8 hK8 ho8 HK7 HF07 HB7 HHA7 HANS HSTO hF810 hFm hlb7 hg7l hb710 hKK
            have hmsz : fsizes F2 ≤ 0 ∨ True := .inr trivial
            clear hmsz
            have HM10 := Lib.hid hm10
            have HK10 := Lib.hid hK10
            have HF010 := Lib.hid hF010
            have HST' := Lib.hid hSt'
            have HFS := Lib.hid hfs
            have HN_ := Lib.hid hn
            have HHEAD := Lib.hid hhead
            have HGOODA := Lib.hid hgoodA
            have HFE := Lib.hid hfe
            have HBE := Lib.hid hbe
            have HTE := Lib.hid hte
            have HRF := Lib.hid hRF
            have HRB := Lib.hid hRB
            have HRT := Lib.hid hRT
            have HN := Lib.hid hN
            have HA := Lib.hid ha
            have HS8 := Lib.hid hs8
            clear hm10 hK10 hF010 hSt' hfs hn hhead hgoodA hfe hbe hte hRF hRB hRT hN ha hs8
            go_upto_if 79 with (fail)
            by_cases hme : p1 = bHEAD
            · have hB0 : B2 = [] := HBE.out.trans (HHEAD.out hme)
              subst hB0 hme
              go_wp2_with (fail)
              go_roundw
              case rel => exact ⟨i + 1, L', by omega, by go_num, HK10, HST', HF010⟩
              case measure => simp [intOf]; omega
            · have hA := HGOODA.out hme
              obtain ⟨z1, z2, z3, z4⟩ := hA.sizes
              have hbn := (HN_.out hme)
              have hnB : n = B2.length := by rw [hbn.1, HBE.out]
              have hnn : n ≤ 9000 := hbn.2
              have hF2e : F2 = a.fs := HFE.out.trans HFS.out.symm
              have hres := hA.good_resp ⟨some ⟨gF, oF, none⟩, d1, F2, D2, d2, B2, D3, d3, T2⟩ hF2e HBE.out HTE.out
              have hRF2 := HRF.out
              rw [← HFE.out] at hRF2
              have hsta : Calls Tryz.prog 11 #[.agg #[.slice (some ⟨gF, oF, none⟩) F2.length d1, .slice D2 B2.length d2, .slice D3 T2.length d3]] w10 fun e w' => e = .returned (.tuple #[.int .i64 ((resp ⟨some ⟨gF, oF, none⟩, d1, F2, D2, d2, B2, D3, d3, T2⟩).1 : Nat), .int .i64 ((resp ⟨some ⟨gF, oF, none⟩, d1, F2, D2, d2, B2, D3, d3, T2⟩).2 : Nat)]) ∧ Frm (New w10) w10 w' :=
                rstatus_any ⟨some ⟨gF, oF, none⟩, d1, F2, D2, d2, B2, D3, d3, T2⟩ w10 ⟨hRF2, HRB.out, HRT.out⟩ ⟨by show fsizes F2 ≤ _; rw [hF2e]; omega, by show F2.length ≤ _; rw [hF2e]; omega, by show fsizes T2 ≤ _; rw [HTE.out]; omega, by show T2.length ≤ _; rw [HTE.out]; omega, by show B2.length ≤ _; omega⟩
              generalize (resp ⟨some ⟨gF, oF, none⟩, d1, F2, D2, d2, B2, D3, d3, T2⟩).1 = rs at *
              generalize (resp ⟨some ⟨gF, oF, none⟩, d1, F2, D2, d2, B2, D3, d3, T2⟩).2 = rd at *
              have m1 : (p1 == [72, 69, 65, 68]) = false := beq_eq_false_iff_ne.2 hme
              have m2 : ¬ p1 = [72, 69, 65, 68] := hme
              have hrd1 : ((rd : Int) == 1) = false := beq_eq_false_iff_ne.2 (by omega)
              have hrd2 : ¬ (rd : Int) = 1 := by omega
              rw [HN.out] at hsta
              have hnB2 := hnB
              clear hme hA hbn hF2e hRF2 hres z1 z2 z3 z4 hnB
              have HSTA := Lib.hid hsta
              have HNB2 := Lib.hid hnB2
              clear hsta hnB2
              go_upto_region 19 with (first
                | (go_at_call 11; refine HSTA.out.mono ?_; rintro e w11 ⟨rfl, hF11⟩))
              have hb11 := HB10.out.fresh hF11
              have hRF11 := HRF.out.fresh hF11
              obtain ⟨hc0, hc2, hc3, _, _⟩ := ansF_cells hRF11
              have hK11 := HK10.out.fresh hF11
              have hF011 := HF010.out.then_new Up.new hF11
              have hgF11 := Nat.lt_of_lt_of_le hgF hF11.size
              have hlb11 := hb11.lt
              clear hv0 hv1 hv2 hcl0 hcl1 hy0
              have hv0 := hb11.cell 0
              have hv1 := hb11.cell 1
              simp only [List.getElem?_toArray, List.getElem?_cons_zero, List.getElem?_cons_succ] at hv0 hv1
              rw [HN.out] at hv0
              simp only [str] at hc0 hc2 hc3
              have hdec : ∀ w', Calls Tryz.prog 12 #[.int .i64 (B2.length : Int)] w' fun e w2 => e = .returned (.string ⟨(decB n).toArray⟩) ∧ w2 = w' := fun w' => by
                have h := rdec_any n w' (by omega)
                rw [HNB2.out] at h ⊢
                exact h.mono (fun e w2 h => ⟨h.1, h.2.symm⟩)
              clear hb11 hRF11 hF11
              have HK11 := Lib.hid hK11
              have HF011 := Lib.hid hF011
              have HDEC := Lib.hid hdec
              clear hK11 hF011 hdec
              go_quiet (first | (go_at_call 12; exact Calls.quiet_of_same (HDEC.out _)))
              go_wp2_with (fail)
              go_roundw
              case rel => exact ⟨i + 1, L', by omega, by go_num, Lib.hid (HK11.out.fresh ((Frm.refl (New w11) w11).drewN _)), HST', Lib.hid (HF011.out.drewN _)⟩
              case measure => simp [intOf]; omega
        · have h0i : ((rc : Int) == 0) = false := beq_eq_false_iff_ne.2 (by omega)
          have h0j : ¬ (rc : Int) = 0 := by omega
          have H0 := Lib.hid h0
          clear h0
          go_wp2_with (fail)
          go_roundw
          case rel => exact ⟨i + 1, L, by omega, by go_num, HK6, hSr, HF06⟩
          case measure => simp [intOf]; omega
    · obtain rfl : i = l.length := by omega
      have hbd : ∀ (c : Int) (w' : World), Frm (New wr) wr w' → Calls Tryz.prog 14 #[.int .i64 c] w' (AnR w' (hBad c)) := fun c w' fr => bad_any c w' (hT.fresh (hFr.out.then_new Up.new fr))
      have hln : ∀ c : Int, (hBad c).fs.length ≤ 1152921504606846976 ∧ (hBad c).ts.length ≤ 1152921504606846976 := fun c => by
        have : (hBad c).fs.length = 3 ∧ (hBad c).ts.length = 0 := by
          unfold hBad
          split
          · exact ⟨rfl, rfl⟩
          · split <;> exact ⟨rfl, rfl⟩
        omega
      have hF0 := hFr.out
      have HBD := Lib.hid hbd
      have HLN := Lib.hid hln
      have HF0 := Lib.hid hF0
      clear hbd hln hF0
      clear hFr hKr hSr
      go_wp2_with (fail)
      refine (HBD.out _ wr (Frm.refl _ _)).mono ?_
      rintro e w3 ⟨m3, rfl, hm3⟩
      go_wp2_with (fail)
      refine (rbad_any _ w3).mono ?_
      rintro e w4 ⟨m4, rfl, hm4⟩
      have hF34 := hm3.frm.then_new Up.new hm4.frm
      have hms := hmessage_eq m3 m4 w4 (hm3.min.fresh hm4.frm) hm4.min (hm4.fs.trans hm3.fs.symm) (hm4.b.trans hm3.b.symm) (hm4.ts.trans hm3.ts.symm) (by rw [hm3.fs]; exact (HLN.out _).1) (by rw [hm3.ts]; exact (HLN.out _).2)
      have HMS := Lib.hid hms
      have HF34 := Lib.hid hF34
      clear hms hF34
      clear hm3 hm4
      go_wp2_with (fail)
      refine HMS.out.mono ?_
      rintro e w5 ⟨rfl, hF5⟩
      have hF35 := HF34.out.then_new Up.new hF5
      clear HMS HF34 hF5
      have HF35 := Lib.hid hF35
      clear hF35
      go_wp2_with (fail)
      refine (HBD.out _ w5 HF35.out).mono ?_
      rintro e w6 ⟨m6, rfl, hm6⟩
      go_wp2_with (fail)
      refine (rbad_any _ w6).mono ?_
      rintro e w7 ⟨m7, rfl, hm7⟩
      have hF37 := (HF35.out.then_new Up.new hm6.frm).then_new Up.new hm7.frm
      have hms := hmessage_eq m6 m7 w7 (hm6.min.fresh hm7.frm) hm7.min (hm7.fs.trans hm6.fs.symm) (hm7.b.trans hm6.b.symm) (hm7.ts.trans hm6.ts.symm) (by rw [hm6.fs]; exact (HLN.out _).1) (by rw [hm6.ts]; exact (HLN.out _).2)
      have HMS := Lib.hid hms
      have HF37 := Lib.hid hF37
      clear hms hF37
      clear hm6 hm7 HF35
      go_wp2_with (fail)
      refine HMS.out.mono ?_
      rintro e w8 ⟨rfl, hF8⟩
      have hF08 := (HF0.out.then_new Up.new HF37.out).then_new Up.new hF8
      clear HMS HF37 hF8 HF0
      have HF08 := Lib.hid hF08
      clear hF08
      go_wp2_with (fail)
      go_ret
      exact ⟨rfl, HF08.out.below⟩
end Go.Proofs.YtpojejdddgdjdaaGreatDoor.M
