/- bifoldlaw7.HencBack: for every input it tells true. No condition. -/
import Derived.Deep.CutBlock
import Derived.BigQuiet
import Derived.Deep.RegionHeld3
import Derived.Deep.RegionWith
import Derived.Test.YtcebckkpablagaaTri
import Derived.Test.YtcebckkpablagaaKnow
import Derived.Test.YtcebckkpablagaaLight
import Derived.Test.YtcebckkpablagaaRgh
namespace Go.Proofs.Ytcebckkpablagaa.M
open Go.ChangeShapes Go.WideShapes Go.ChangeAt Go.RowKit

theorem lsum_mem {l : List Fld} {f : Fld} (h : f ∈ l) : f.1.length + f.2.length ≤ lsum l := by
  induction l with
  | nil => cases h
  | cons g r ih =>
    have e : lsum (g :: r) = (g.1.length + g.2.length) + lsum r := by simp [lsum]
    rw [e]
    rcases List.mem_cons.1 h with rfl | h
    · omega
    · have := ih h; omega
theorem fsizes_lsum2 (l : List Fld) : fsizes l = lsum l + 32 * l.length := by
  induction l with
  | nil => rfl
  | cons g r ih =>
    have e : lsum (g :: r) = (g.1.length + g.2.length) + lsum r := by simp [lsum]
    rw [fsizes_cons, e, ih, List.length_cons]
    unfold fsize
    omega

theorem Rd.keepB {M : Nat → Prop} {w w' : World} {A : Option Addr} {B : Bytes} (h : Rd w A (bvs B)) (f : Frm M w w') (hf : B ≠ [] → Far M A) : Rd w' A (bvs B) := by
  cases B with
  | nil => exact Rd.nil
  | cons x r => exact h.keep f (hf (by simp))
theorem App.ltB {M : Nat → Prop} {w : World} {e n c : Nat} {A : Option Addr} {B : Bytes} (h : App M w e 1 A n c (bvs B)) (hB : B ≠ []) : ∀ k, blk A = some k → k < w.heap.size := fun k hk => by
  obtain ⟨g, off, e, hl⟩ := h.rd.lt (fun c => hB (by have := congrArg List.length c; rw [bvs_length, List.length_nil] at this; exact List.eq_nil_of_length_eq_zero this))
  rw [e] at hk
  have hk2 : g = k := by simpa using hk
  omega
set_option maxRecDepth 100000 in
set_option maxHeartbeats 1000000 in
theorem rdecode_nil {S : Nat → Prop} {p g : Nat} {D : De} (A0 : Option Addr) (c0 : Nat) (w : World) (h : RDeAt S w p g D) (hb : D.bad = false) (hm : D.must = false) :
    Calls Try.prog 30 #[.pointer (some ⟨p, 0, none⟩), .slice A0 0 c0] w (RDRes w S p g D (some ([], D.t))) := by
  have hM : RDM w S p g D S D.t [] [] none 0 none 0 w := ⟨h, Rd.nil, Nat.le_refl _, fun k hk => (by cases hk), App.none_, fun k hk => (by cases hk), h.blk.lt, Frm.refl _ _, fun k hk => .inl hk⟩
  have hk := h.blk
  have hd2 := hk.cell 2
  have hd3 := hk.cell 3
  simp only [List.getElem?_toArray, List.getElem?_cons_zero, List.getElem?_cons_succ] at hd2 hd3
  have hz2 := hk.frozen 2
  have hp := hk.lt
  rw [hb] at hd3
  rw [hm] at hd2
  have H := Lib.hid h
  have HM := Lib.hid hM
  have HK := Lib.hid hk
  have HB := Lib.hid hb
  clear h hM hk hb
  go_enter Try.func30, Try.ntmps30
  go_wp2
  go_loopw [1, 6, 7] (fun vb vo vs wr => vb = .slice A0 0 c0 ∧ vo = .slice none 0 0 ∧ vs = .int .i64 0 ∧ wr = w) (fun _ _ _ _ => 0)
  case atStart => exact ⟨rfl, rfl, rfl, rfl⟩
  case round =>
    obtain ⟨rfl, rfl, rfl, rfl⟩ := hrel
    go_wp2
    go_ret2
    exact rdm_done HM.out rfl HB.out
theorem run_convO {o : Oper} {a : Act} {w : World} {x : Operand} {A : Option Addr} {l : Bytes} {c : Nat} (ho : o.op = .convert 22 9 x) (hx : a.eval x = .slice A l.length c) (hR : Rd w A (bvs l)) :
    (execOp a.eval o).run Try.prog w = .ok (.value (str l)) w := by
  unfold execOp
  rw [ho]
  simp only [hx, Sem.run_bind, run_conv hR, Result.andThen_ok, Sem.run_pure]
set_option maxRecDepth 100000 in
set_option maxHeartbeats 4000000 in
theorem hback_walk (v : Int) (A1 : Option Addr) (n1 c1 : Nat) (L : List (Sl Fld)) (A2 : Option Addr) (n2 c2 : Nat) (zs : List Int) (W : World) (hv : (Lit.int .i64 v).wf = true)
    (h1 : AIn W Sl.cells (fun s => AIn W fcells FldOk s.A s.l.length s.c s.l) A1 n1 c1 L) (h2 : AIn W icells IntOk A2 n2 c2 zs) :
    Calls Try.prog 6 #[.int .i64 v, .slice A1 n1 c1, .slice A2 n2 c2] W fun e w' => e = .returned (.bool true) ∧ Below W.heap.size W w' := by
  obtain ⟨hn1, hR1, hcap1, _, hok1⟩ := h1
  obtain ⟨hn2, hR2, hcap2, _, hok2⟩ := h2
  subst hn1 hn2
  have hv : -9223372036854775808 ≤ v ∧ v ≤ 9223372036854775807 := by
    simp only [Lit.wf, decide_eq_true_eq, Bool.and_eq_true] at hv; exact hv
  have HR1 := Lib.hid hR1
  have HR2 := Lib.hid hR2
  have HOK1 := Lib.hid hok1
  have HOK2 := Lib.hid hok2
  clear hR1 hR2 hok1 hok2
  go_enter Try.func6, Try.ntmps6
  go_wp2_with (fail)
  refine (known7_any _).mono ?_
  rintro e w1 ⟨rfl, hF1⟩
  have HF1 := Lib.hid hF1
  clear hF1
  by_cases q1 : 6 < L.length
  · go_wp2
    go_ret
    exact ⟨rfl, HF1.out.below⟩
  by_cases q2 : 12 < zs.length
  · go_wp2
    go_ret
    exact ⟨rfl, HF1.out.below⟩
  go_wp2_with (fail)
  refine (enew_any v (by omega) (by omega) _).mono ?_
  rintro e w2 ⟨S1, p1, g1, rfl, hE2, hF2, hS2, hp2⟩
  go_wp2_with (fail)
  refine (renew_any v (by omega) (by omega) _).mono ?_
  rintro e w3 ⟨S2, p2, g2, rfl, hE3, hF3, hS3, hp3⟩
  go_wp2_with (fail)
  refine (rdnew_any v (by omega) (by omega) _).mono ?_
  rintro e w4 ⟨S3, p3, g3, rfl, hE4, hF4, hS4, hp4⟩
  have hH := HBk.start HF1.out hE2 hF2 hS2 hp2 hE3 hF3 hS3 hp3 hE4 hF4 hS4 hp4
  have hY := Sync.new v
  have HH := Lib.hid hH
  have HY := Lib.hid hY
  clear hH hY
  clear hE2 hE3 hE4 hF2 hF3 hF4 hS2 hS3 hS4 hp2 hp3 hp4 HF1
  go_wp2
  go_loopw [10, 11] (fun vk vi wr => ∃ (kz i : Nat) (S1 : Nat → Prop) (E : En) (ch : Bool) (ls1 : Nat) (S2 : Nat → Prop) (ls2 : Int) (S3 : Nat → Prop) (D : De), i ≤ L.length ∧ kz ≤ zs.length ∧ vk = .int .i64 kz ∧ vi = .int .i64 i ∧
    Hid (HBk W wr S1 p1 g1 E ch ls1 S2 p2 g2 E ls2 S3 p3 g3 D) ∧ Hid (Sync D E) ∧ Hid (E.t.n ≤ 20 * i)) (fun _ vi _ => L.length - (intOf vi).toNat)
  case atStart => exact ⟨0, 0, S1, _, false, 0, S2, -1, S3, _, Nat.zero_le _, Nat.zero_le _, rfl, rfl, HH, HY, Nat.le_refl _⟩
  case round =>
    obtain ⟨kz, i, S1, E, ch, ls1, S2, ls2, S3, D, hi, hkz, rfl, rfl, hH, hY, hN⟩ := hrel
    rename World => wo
    clear HH HY
    by_cases hlt : i < L.length
    · obtain ⟨ga, oa, rfl, hx1W⟩ := sl_get2 HR1.out i hlt
      have hPI := HOK1.out L[i] (List.getElem_mem hlt)
      generalize L[i] = s at *
      obtain ⟨sA, sc, sl⟩ := s
      simp only at hPI hx1W
      obtain ⟨_, hRs, _, _, hoks⟩ := hPI
      rw [fcells_fvs] at hRs
      have hgaW := World.block_lt_of_cell? _ _ hx1W
      have hx1 : ∀ w', Frm (New W) W w' → w'.cell? ⟨ga, oa + i, none⟩ = some (.slice sA sl.length sc) := fun w' f => by
        rw [f.cell (by unfold New; simp only at hgaW ⊢; omega)]; exact hx1W
      have hFW := hH.out.tri.frm
      have hxw := hx1 wo hFW
      have hgw : ga < wo.heap.size := Nat.lt_of_lt_of_le hgaW hFW.size
      have hRw := hRs.fresh hFW
      have HX1 := Lib.hid hx1
      have HRS := Lib.hid hRs
      have HOKS := Lib.hid hoks
      have HFW := Lib.hid hFW
      have HRW := Lib.hid hRw
      clear hx1 hRs hoks hFW hRw
      clear hx1W
      by_cases q5 : 20 < sl.length
      · go_wp2
        go_ret
        exact ⟨rfl, HFW.out.below⟩
      cases hli : light sl with
      | false =>
        have hL := light_any sl sA sc wo HRW.out HOKS.out (by omega)
        rw [hli] at hL
        have HL := Lib.hid hL
        have HLI := Lib.hid hli
        clear hL hli
        go_wp2_with (go_at_call 18; refine HL.out.mono ?_; rintro e w5 ⟨rfl, hF5⟩)
        go_ret
        exact ⟨rfl, (HFW.out.then_new Up.new hF5).below⟩
      | true =>
        have hL := light_any sl sA sc wo HRW.out HOKS.out (by omega)
        rw [hli] at hL
        have hls : lsum sl ≤ 3000 := by
          have := hli
          unfold light at this
          have := of_decide_eq_true this
          exact this.2
        have HL := Lib.hid hL
        have HLI := Lib.hid hli
        clear hL hli
        go_upto_region 13 with (go_at_call 18; refine HL.out.mono ?_; rintro e w5 ⟨rfl, hF5⟩)
        have hH5 := hH.out.fresh hF5
        have hF5W := HFW.out.then_new Up.new hF5
        clear hxw hgw
        have hxw := HX1.out w5 hF5W
        have hgw : ga < w5.heap.size := Nat.lt_of_lt_of_le hgaW hF5W.size
        have hR5 := HRS.out.fresh hF5W
        have hfz : fsizes sl ≤ 68719476736 := by rw [fsizes_lsum2]; omega
        have hAlow : sl ≠ [] → ∀ k, blk sA = some k → k < W.heap.size := fun hne k hk => by
          obtain ⟨g9, o9, e9, l9⟩ := HRS.out.lt (fun c => hne (by have := congrArg List.length c; rw [fvs_length] at this; exact List.eq_nil_of_length_eq_zero (by rw [List.length_nil] at this; omega)))
          rw [e9] at hk
          have hk2 : g9 = k := by simpa using hk
          omega
        have HH5 := Lib.hid hH5
        have HF5W := Lib.hid hF5W
        have HR5 := Lib.hid hR5
        have HALOW := Lib.hid hAlow
        clear hH5 hF5W hR5 hAlow
        clear hF5
        go_wp2_with (fail)
        refine (encB_any0 sl sA sc w5 HH5.out.en HR5.out (fun hne k hk => by
          have h1 := HALOW.out hne k hk
          have h2 := HH5.out.tri.l1
          exact ⟨fun e => by have := h2 p1 (.inl rfl); omega, fun c => by have := h2 k (.inr c); omega⟩) hfz (by have := hN.out; omega)).mono ?_
        rintro e w6 ⟨S6, A6, c6, rfl, hA6, hfar6, hE6, hF6, hS6⟩
        have hH6 := HH5.out.enc hE6 hF6 hS6
        have hF6W := hH6.tri.frm
        clear hxw hgw
        have hxw := HX1.out w6 hF6W
        have hgw : ga < w6.heap.size := Nat.lt_of_lt_of_le hgaW hF6W.size
        have hR6 := HRS.out.fresh hF6W
        have hB6 := HH5.out.tri.frm.size
        obtain ⟨B, hB⟩ : ∃ B, B = E.encB sl := ⟨_, rfl⟩
        obtain ⟨E', hE'⟩ : ∃ E', E' = E.enc sl := ⟨_, rfl⟩
        have hA6r := hA6.rd
        have hA6c := hA6.cap
        have hbl : (E.encB sl).length ≤ 68719476736 := by
          have h1 := sizeB_le E
          have h2 := linesB_le E.t sl
          have h3 := fsizes_lsum2 sl
          show (E.sizeB ++ linesB E.t sl).length ≤ _
          rw [List.length_append]
          omega
        have hA6f : B ≠ [] → ∀ k, blk A6 = some k → ¬ (k = p2 ∨ Own S2 w6 k) ∧ ¬ (k = p3 ∨ Own S3 w6 k) ∧ w5.heap.size ≤ k ∧ k < w6.heap.size := fun hne k hk => by
          have h1 := hA6.inM k hk
          have h2 : k < w6.heap.size := App.ltB hA6 (by rw [← hB]; exact hne) k hk
          have h3 := HH5.out.tri.l2
          have h4 := HH5.out.tri.l3
          refine ⟨fun c => ?_, fun c => ?_, h1, h2⟩
          · unfold New at h1
            rcases c with c | c | c
            · have := h3 k (.inl c); omega
            · have := h3 k (.inr c); omega
            · omega
          · unfold New at h1
            rcases c with c | c | c
            · have := h4 k (.inl c); omega
            · have := h4 k (.inr c); omega
            · omega
        have hren := rencB_any sl sA sc w6.drew (hH6.re.fresh ((Frm.refl _ _).drew)) (hR6.fresh ((Frm.refl _ _).drew)) (fun hne k hk => by
          have h1 := HALOW.out hne k hk
          have h2 := hH6.tri.l2
          exact ⟨fun e => by have := h2 p2 (.inl rfl); omega, fun c => by have := h2 k (.inr c); omega⟩) hfz (by have := hN.out; omega)
        rw [← hB, ← hE'] at hren
        rw [← hB] at hA6r hbl hA6c ⊢
        rw [← hE'] at hE6 hH6
        have HB := Lib.hid hB
        have HE' := Lib.hid hE'
        have HA6R := Lib.hid hA6r
        have HA6F := Lib.hid hA6f
        have HREN := Lib.hid hren
        have HH6 := Lib.hid hH6
        have HF6W := Lib.hid hF6W
        have HR6 := Lib.hid hR6
        clear hB hE' hA6r hA6f hren hH6 hF6W hR6
        clear hA6 hE6 hF6 hfar6 HH5 HR5
        go_upto_region 14 with (fail)
        go_cut [107] from 32 to 151 (fun v w5 => ∃ (w9 : World) (S9 : Nat → Prop) (ls9 : Int), w5 = w9 ∧ v = .bool false ∧ Hid (HBk W w9 S6 p1 g1 E' false ls1 S9 p2 g2 E' ls9 S3 p3 g3 D) ∧ Hid (Frm (fun k => k = p2 ∨ Own S2 w6 k) w6 w9))
        case first =>
          have hS0 : w6.drew.cell? ⟨ga, oa + i, none⟩ = some (.slice sA sl.length sc) ∧ Rd w6.drew A6 (bvs B) ∧ ga < w6.drew.heap.size := ⟨hxw, HA6R.out.drew, hgw⟩
          refine wp_region_held (by kernel_rfl) (S := fun w' => w'.cell? ⟨ga, oa + i, none⟩ = some (.slice sA sl.length sc) ∧ Rd w' A6 (bvs B) ∧ ga < w'.heap.size) ?_
          change wpAnyH _ _ _ _ _ _ _ _ w6.drew
          refine wpAnyH_takeB (i := 0) (v := ?_) (d := some 58) rfl (by rfl) (by kernel_rfl) (fun _ _ _ h => h) (by rfl) hS0 (fun w hSw => ?_) ?_
          rotate_left
          · (try dsimp only at hSw); (try subst hSw); go_simp; first | done | (with_reducible rfl)
          simp only [Act.put, List.setIfInBounds_toArray, List.set_cons_zero, List.set_cons_succ]
          refine wpAnyH_takeB (i := 1) (v := str B) (d := some 59) rfl (by rfl) (by kernel_rfl) (fun _ _ _ h => h) (by rfl) hS0 (fun w hSw => ?_) ?_
          · exact run_convO rfl rfl hSw.2.1
          simp only [Act.put, List.setIfInBounds_toArray, List.set_cons_zero, List.set_cons_succ]
          refine wpAnyH_takeB (i := 2) (v := ?_) (d := some 60) rfl (by rfl) (by kernel_rfl) (fun _ _ _ h => h) (by rfl) hS0 (fun w hSw => ?_) ?_
          rotate_left
          · (try dsimp only at hSw); (try subst hSw); go_simp; first | done | (with_reducible rfl)
          simp only [Act.put, List.setIfInBounds_toArray, List.set_cons_zero, List.set_cons_succ]
          refine wpAnyH_takeB (i := 3) (v := ?_) (d := some 61) rfl (by rfl) (by kernel_rfl) (fun _ _ _ h => h) (by rfl) hS0 (fun w hSw => ?_) ?_
          rotate_left
          · (try dsimp only at hSw); (try subst hSw); go_simp; first | done | (with_reducible rfl)
          simp only [Act.put, List.setIfInBounds_toArray, List.set_cons_zero, List.set_cons_succ]
          refine wpAnyH_takeB (i := 4) (v := ?_) (d := some 62) rfl (by rfl) (by kernel_rfl) (fun _ _ _ h => h) (by rfl) hS0 (fun w hSw => ?_) ?_
          rotate_left
          · (try dsimp only at hSw); (try subst hSw); go_simp; first | done | (with_reducible rfl)
          simp only [Act.put, List.setIfInBounds_toArray, List.set_cons_zero, List.set_cons_succ]
          refine wpAnyH_takeB (i := 5) (v := ?_) (d := some 63) rfl (by rfl) (by kernel_rfl) (fun _ _ _ h => h) (by rfl) hS0 (fun w hSw => ?_) ?_
          rotate_left
          · (try dsimp only at hSw); (try subst hSw); go_simp; first | done | (with_reducible rfl)
          simp only [Act.put, List.setIfInBounds_toArray, List.set_cons_zero, List.set_cons_succ]
          refine wpAnyH_takeB (i := 6) (v := ?_) (d := some 64) rfl (by rfl) (by kernel_rfl) (fun _ _ _ h => h) (by rfl) hS0 (fun w hSw => ?_) ?_
          rotate_left
          · (try dsimp only at hSw); (try subst hSw); go_simp; first | done | (with_reducible rfl)
          simp only [Act.put, List.setIfInBounds_toArray, List.set_cons_zero, List.set_cons_succ]
          as_aux_lemma =>
            refine wpAnyH_oneB (i := 7) rfl (by kernel_rfl) (fun K hK => ?_)
            go_wp2_with (go_at_call 27; refine HREN.out.mono ?_; rintro e w7 ⟨S7, A7, c7, rfl, hA7, hfar7, hE7, hF7, hS7⟩)
            have hF7' : Frm (fun k => k = p2 ∨ Own S2 w6 k) w6 w7 := ((Frm.refl _ w6).drew).trans hF7
            have hH7 := HH6.out.ren hE7 hF7' hS7
            have hxw7 := HX1.out w7 hH7.tri.frm
            have hgw7 : ga < w7.heap.size := Nat.lt_of_lt_of_le hgaW hH7.tri.frm.size
            have hR67 := HA6R.out.keepB hF7' (fun hne k hk => (HA6F.out hne k hk).1)
            refine hK.out _ _ ⟨hxw7, hR67, hgw7⟩ ?_
            refine wpAnyH_mono (S1 := fun w' => w' = w7) (fun w' e => by rw [e]; exact ⟨hxw7, hR67, hgw7⟩) _ _ _ _ ?_
            clear hK K hS0 hxw hgw
            try simp only [Act.put, List.setIfInBounds_toArray, List.set_cons_zero, List.set_cons_succ]
            have hA7r := hA7.rd
            have hTa := table_any w7 hH7.en
            obtain ⟨At, cA, ta, tb, ew, en_, hT⟩ := hH7.en.tab
            have hTl := tlen_any w7 hT
            have hTn := tcount_any w7 hT
            have hTc := tcap_any w7 hT
            obtain ⟨A2t, cA2, hT2⟩ := hH7.re.tab
            have hbp := hH7.re.blk
            have hbg := hT2.blk
            have hp0 := hbp.cell 0
            simp only [List.getElem?_toArray, List.getElem?_cons_zero] at hp0
            have hg0 := hbg.cell 0
            have hg1 := hbg.cell 1
            have hg2 := hbg.cell 2
            simp only [List.getElem?_toArray, List.getElem?_cons_zero, List.getElem?_cons_succ] at hg0 hg1 hg2
            have hpl := hbp.lt
            have hgl := hbg.lt
            have HH7 := Lib.hid hH7
            have HF7 := Lib.hid hF7'
            have HTA := Lib.hid hTa
            have HTL := Lib.hid hTl
            have HTN := Lib.hid hTn
            have HTC := Lib.hid hTc
            have HBP := Lib.hid hbp
            have HBG := Lib.hid hbg
            have HA7R := Lib.hid hA7r
            clear hH7 hF7' hTa hTl hTn hTc hbp hbg hA7r
            clear hA7 hfar7 hE7 hF7 hS7 hT hT2 hxw7 hgw7 hR67
            as_aux_lemma =>
              refine wpAnyH_takeB (i := 8) (v := str B) (d := some 66) rfl (by rfl) (by kernel_rfl) (fun _ _ _ h => h) (by rfl) rfl (fun w hSw => ?_) ?_
              · subst hSw
                exact run_convO rfl rfl HA7R.out
              simp only [Act.put, List.setIfInBounds_toArray, List.set_cons_zero, List.set_cons_succ, str]
              as_aux_lemma =>
                refine wpAnyH_takeB (i := 9) (v := ?_) (d := some 67) rfl (by rfl) (by kernel_rfl) (fun _ _ _ h => h) (by rfl) rfl (fun w hSw => ?_) ?_
                rotate_left
                · (try dsimp only at hSw); (try subst hSw); go_simp; first | done | (with_reducible rfl)
                simp only [Act.put, List.setIfInBounds_toArray, List.set_cons_zero, List.set_cons_succ]
                refine wpAnyH_takeB (i := 10) (v := ?_) (d := some 68) rfl (by rfl) (by kernel_rfl) (fun _ _ _ h => h) (by rfl) rfl (fun w hSw => ?_) ?_
                rotate_left
                · (try dsimp only at hSw); (try subst hSw); go_simp; first | done | (with_reducible rfl)
                simp only [Act.put, List.setIfInBounds_toArray, List.set_cons_zero, List.set_cons_succ]
                refine wpAnyH_takeB (i := 11) (v := ?_) (d := some 69) rfl (by rfl) (by kernel_rfl) (fun _ _ _ h => h) (by rfl) rfl (fun w hSw => ?_) ?_
                rotate_left
                · (try dsimp only at hSw); (try subst hSw); go_simp; first | done | (with_reducible rfl)
                simp only [Act.put, List.setIfInBounds_toArray, List.set_cons_zero, List.set_cons_succ]
                refine wpAnyH_takeB (i := 14) (v := ?_) (d := some 72) rfl (by rfl) (by kernel_rfl) (fun _ _ _ h => h) (by rfl) rfl (fun w hSw => ?_) ?_
                rotate_left
                · (try dsimp only at hSw); (try subst hSw); go_simp; first | done | (with_reducible rfl)
                simp only [Act.put, List.setIfInBounds_toArray, List.set_cons_zero, List.set_cons_succ]
                refine wpAnyH_takeB (i := 15) (v := ?_) (d := some 73) rfl (by rfl) (by kernel_rfl) (fun _ _ _ h => h) (by rfl) rfl (fun w hSw => ?_) ?_
                rotate_left
                · (try dsimp only at hSw); (try subst hSw); go_simp; first | done | (with_reducible rfl)
                simp only [Act.put, List.setIfInBounds_toArray, List.set_cons_zero, List.set_cons_succ]
                refine wpAnyH_takeB (i := 16) (v := ?_) (d := some 74) rfl (by rfl) (by kernel_rfl) (fun _ _ _ h => h) (by rfl) rfl (fun w hSw => ?_) ?_
                rotate_left
                · (try dsimp only at hSw); (try subst hSw); go_simp; first | done | (with_reducible rfl)
                simp only [Act.put, List.setIfInBounds_toArray, List.set_cons_zero, List.set_cons_succ]
                refine wpAnyH_takeB (i := 17) (v := ?_) (d := some 75) rfl (by rfl) (by kernel_rfl) (fun _ _ _ h => h) (by rfl) rfl (fun w hSw => ?_) ?_
                rotate_left
                · (try dsimp only at hSw); (try subst hSw); go_simp; first | done | (with_reducible rfl)
                simp only [Act.put, List.setIfInBounds_toArray, List.set_cons_zero, List.set_cons_succ]
                as_aux_lemma =>
                  refine wpAnyH_takeB (i := 18) (v := ?_) (d := some 76) rfl (by rfl) (by kernel_rfl) (fun _ _ _ h => h) (by rfl) rfl (fun w hSw => ?_) ?_
                  rotate_left
                  · (try dsimp only at hSw); (try subst hSw); go_simp; first | done | (with_reducible rfl)
                  simp only [Act.put, List.setIfInBounds_toArray, List.set_cons_zero, List.set_cons_succ]
                  refine wpAnyH_takeB (i := 19) (v := ?_) (d := some 77) rfl (by rfl) (by kernel_rfl) (fun _ _ _ h => h) (by rfl) rfl (fun w hSw => ?_) ?_
                  rotate_left
                  · (try dsimp only at hSw); (try subst hSw); go_simp; first | done | (with_reducible rfl)
                  simp only [Act.put, List.setIfInBounds_toArray, List.set_cons_zero, List.set_cons_succ]
                  refine wpAnyH_takeB (i := 20) (v := ?_) (d := some 78) rfl (by rfl) (by kernel_rfl) (fun _ _ _ h => h) (by rfl) rfl (fun w hSw => ?_) ?_
                  rotate_left
                  · (try dsimp only at hSw); (try subst hSw); go_simp; first | done | (with_reducible rfl)
                  simp only [Act.put, List.setIfInBounds_toArray, List.set_cons_zero, List.set_cons_succ]
                  refine wpAnyH_takeB (i := 21) (v := ?_) (d := some 79) rfl (by rfl) (by kernel_rfl) (fun _ _ _ h => h) (by rfl) rfl (fun w hSw => ?_) ?_
                  rotate_left
                  · (try dsimp only at hSw); (try subst hSw); go_simp; first | done | (with_reducible rfl)
                  simp only [Act.put, List.setIfInBounds_toArray, List.set_cons_zero, List.set_cons_succ]
                  as_aux_lemma =>
                    refine wpAnyH_oneB (i := 12) rfl (by kernel_rfl) (fun K hK => ?_)
                    refine Eq.mpr (if_pos (by rfl)) ?_
                    (go_wp2_with (go_at_call 22; refine HTA.out.mono ?_; rintro e w8 ⟨rfl, hw8⟩; rw [hw8]; clear hw8 w8))
                    refine hK.out _ _ (rfl) ?_
                    clear hK K
                    try simp only [Act.put, List.setIfInBounds_toArray, List.set_cons_zero, List.set_cons_succ]
                    refine wpAnyH_oneB (i := 13) rfl (by kernel_rfl) (fun K hK => ?_)
                    refine Eq.mpr (if_pos (by rfl)) ?_
                    (go_wp2_with (go_at_call 23; refine HTL.out.mono ?_; rintro e w8 ⟨rfl, hw8⟩; rw [hw8]; clear hw8 w8))
                    refine hK.out _ _ (rfl) ?_
                    clear hK K
                    try simp only [Act.put, List.setIfInBounds_toArray, List.set_cons_zero, List.set_cons_succ]
                    as_aux_lemma =>
                      refine wpAnyH_takeB (i := 22) (v := ?_) (d := some 80) rfl (by rfl) (by kernel_rfl) (fun _ _ _ h => h) (by rfl) rfl (fun w hSw => ?_) ?_
                      rotate_left
                      · (try dsimp only at hSw); (try subst hSw); go_simp; first | done | (with_reducible rfl)
                      simp only [Act.put, List.setIfInBounds_toArray, List.set_cons_zero, List.set_cons_succ]
                      refine wpAnyH_takeB (i := 23) (v := ?_) (d := some 81) rfl (by rfl) (by kernel_rfl) (fun _ _ _ h => h) (by rfl) rfl (fun w hSw => ?_) ?_
                      rotate_left
                      · (try dsimp only at hSw); (try subst hSw); go_simp; first | done | (with_reducible rfl)
                      simp only [Act.put, List.setIfInBounds_toArray, List.set_cons_zero, List.set_cons_succ]
                      refine wpAnyH_takeB (i := 24) (v := ?_) (d := some 82) rfl (by rfl) (by kernel_rfl) (fun _ _ _ h => h) (by rfl) rfl (fun w hSw => ?_) ?_
                      rotate_left
                      · (try dsimp only at hSw); (try subst hSw); go_simp; first | done | (with_reducible rfl)
                      simp only [Act.put, List.setIfInBounds_toArray, List.set_cons_zero, List.set_cons_succ]
                      refine wpAnyH_takeB (i := 25) (v := ?_) (d := some 83) rfl (by rfl) (by kernel_rfl) (fun _ _ _ h => h) (by rfl) rfl (fun w hSw => ?_) ?_
                      rotate_left
                      · (try dsimp only at hSw); (try subst hSw); go_simp; first | done | (with_reducible rfl)
                      simp only [Act.put, List.setIfInBounds_toArray, List.set_cons_zero, List.set_cons_succ]
                      refine wpAnyH_takeB (i := 28) (v := ?_) (d := some 86) rfl (by rfl) (by kernel_rfl) (fun _ _ _ h => h) (by rfl) rfl (fun w hSw => ?_) ?_
                      rotate_left
                      · (try dsimp only at hSw); (try subst hSw); go_simp; first | done | (with_reducible rfl)
                      simp only [Act.put, List.setIfInBounds_toArray, List.set_cons_zero, List.set_cons_succ]
                      refine wpAnyH_takeB (i := 29) (v := ?_) (d := some 87) rfl (by rfl) (by kernel_rfl) (fun _ _ _ h => h) (by rfl) rfl (fun w hSw => ?_) ?_
                      rotate_left
                      · (try dsimp only at hSw); (try subst hSw); go_simp; first | done | (with_reducible rfl)
                      simp only [Act.put, List.setIfInBounds_toArray, List.set_cons_zero, List.set_cons_succ]
                      as_aux_lemma =>
                        refine wpAnyH_takeB (i := 30) (v := ?_) (d := some 88) rfl (by rfl) (by kernel_rfl) (fun _ _ _ h => h) (by rfl) rfl (fun w hSw => ?_) ?_
                        rotate_left
                        · (try dsimp only at hSw); (try subst hSw); go_simp; first | done | (with_reducible rfl)
                        simp only [Act.put, List.setIfInBounds_toArray, List.set_cons_zero, List.set_cons_succ]
                        refine wpAnyH_takeB (i := 31) (v := ?_) (d := some 89) rfl (by rfl) (by kernel_rfl) (fun _ _ _ h => h) (by rfl) rfl (fun w hSw => ?_) ?_
                        rotate_left
                        · (try dsimp only at hSw); (try subst hSw); go_simp; first | done | (with_reducible rfl)
                        simp only [Act.put, List.setIfInBounds_toArray, List.set_cons_zero, List.set_cons_succ]
                        refine wpAnyH_takeB (i := 32) (v := ?_) (d := some 90) rfl (by rfl) (by kernel_rfl) (fun _ _ _ h => h) (by rfl) rfl (fun w hSw => ?_) ?_
                        rotate_left
                        · (try dsimp only at hSw); (try subst hSw); go_simp; first | done | (with_reducible rfl)
                        simp only [Act.put, List.setIfInBounds_toArray, List.set_cons_zero, List.set_cons_succ]
                        refine wpAnyH_takeB (i := 33) (v := ?_) (d := some 91) rfl (by rfl) (by kernel_rfl) (fun _ _ _ h => h) (by rfl) rfl (fun w hSw => ?_) ?_
                        rotate_left
                        · (try dsimp only at hSw); (try subst hSw); go_simp; first | done | (with_reducible rfl)
                        simp only [Act.put, List.setIfInBounds_toArray, List.set_cons_zero, List.set_cons_succ]
                        refine wpAnyH_takeB (i := 34) (v := ?_) (d := some 92) rfl (by rfl) (by kernel_rfl) (fun _ _ _ h => h) (by rfl) rfl (fun w hSw => ?_) ?_
                        rotate_left
                        · (try dsimp only at hSw); (try subst hSw); go_simp; first | done | (with_reducible rfl)
                        simp only [Act.put, List.setIfInBounds_toArray, List.set_cons_zero, List.set_cons_succ]
                        as_aux_lemma =>
                          refine wpAnyH_oneB (i := 26) rfl (by kernel_rfl) (fun K hK => ?_)
                          refine Eq.mpr (if_pos (by rfl)) ?_
                          (go_wp2_with (go_at_call 22; refine HTA.out.mono ?_; rintro e w8 ⟨rfl, hw8⟩; rw [hw8]; clear hw8 w8))
                          refine hK.out _ _ (rfl) ?_
                          clear hK K
                          try simp only [Act.put, List.setIfInBounds_toArray, List.set_cons_zero, List.set_cons_succ]
                          refine wpAnyH_oneB (i := 27) rfl (by kernel_rfl) (fun K hK => ?_)
                          refine Eq.mpr (if_pos (by rfl)) ?_
                          (go_wp2_with (go_at_call 28; refine HTN.out.mono ?_; rintro e w8 ⟨rfl, hw8⟩; rw [hw8]; clear hw8 w8))
                          refine hK.out _ _ (rfl) ?_
                          clear hK K
                          try simp only [Act.put, List.setIfInBounds_toArray, List.set_cons_zero, List.set_cons_succ]
                          as_aux_lemma =>
                            refine wpAnyH_takeB (i := 35) (v := ?_) (d := some 93) rfl (by rfl) (by kernel_rfl) (fun _ _ _ h => h) (by rfl) rfl (fun w hSw => ?_) ?_
                            rotate_left
                            · (try dsimp only at hSw); (try subst hSw); go_simp; first | done | (with_reducible rfl)
                            simp only [Act.put, List.setIfInBounds_toArray, List.set_cons_zero, List.set_cons_succ]
                            refine wpAnyH_takeB (i := 36) (v := ?_) (d := some 94) rfl (by rfl) (by kernel_rfl) (fun _ _ _ h => h) (by rfl) rfl (fun w hSw => ?_) ?_
                            rotate_left
                            · (try dsimp only at hSw); (try subst hSw); go_simp; first | done | (with_reducible rfl)
                            simp only [Act.put, List.setIfInBounds_toArray, List.set_cons_zero, List.set_cons_succ]
                            refine wpAnyH_takeB (i := 37) (v := ?_) (d := some 95) rfl (by rfl) (by kernel_rfl) (fun _ _ _ h => h) (by rfl) rfl (fun w hSw => ?_) ?_
                            rotate_left
                            · (try dsimp only at hSw); (try subst hSw); go_simp; first | done | (with_reducible rfl)
                            simp only [Act.put, List.setIfInBounds_toArray, List.set_cons_zero, List.set_cons_succ]
                            refine wpAnyH_takeB (i := 38) (v := ?_) (d := some 96) rfl (by rfl) (by kernel_rfl) (fun _ _ _ h => h) (by rfl) rfl (fun w hSw => ?_) ?_
                            rotate_left
                            · (try dsimp only at hSw); (try subst hSw); go_simp; first | done | (with_reducible rfl)
                            simp only [Act.put, List.setIfInBounds_toArray, List.set_cons_zero, List.set_cons_succ]
                            refine wpAnyH_takeB (i := 41) (v := ?_) (d := some 99) rfl (by rfl) (by kernel_rfl) (fun _ _ _ h => h) (by rfl) rfl (fun w hSw => ?_) ?_
                            rotate_left
                            · (try dsimp only at hSw); (try subst hSw); go_simp; first | done | (with_reducible rfl)
                            simp only [Act.put, List.setIfInBounds_toArray, List.set_cons_zero, List.set_cons_succ]
                            refine wpAnyH_takeB (i := 42) (v := ?_) (d := some 100) rfl (by rfl) (by kernel_rfl) (fun _ _ _ h => h) (by rfl) rfl (fun w hSw => ?_) ?_
                            rotate_left
                            · (try dsimp only at hSw); (try subst hSw); go_simp; first | done | (with_reducible rfl)
                            simp only [Act.put, List.setIfInBounds_toArray, List.set_cons_zero, List.set_cons_succ]
                            as_aux_lemma =>
                              refine wpAnyH_takeB (i := 43) (v := ?_) (d := some 101) rfl (by rfl) (by kernel_rfl) (fun _ _ _ h => h) (by rfl) rfl (fun w hSw => ?_) ?_
                              rotate_left
                              · (try dsimp only at hSw); (try subst hSw); go_simp; first | done | (with_reducible rfl)
                              simp only [Act.put, List.setIfInBounds_toArray, List.set_cons_zero, List.set_cons_succ]
                              refine wpAnyH_takeB (i := 44) (v := ?_) (d := some 102) rfl (by rfl) (by kernel_rfl) (fun _ _ _ h => h) (by rfl) rfl (fun w hSw => ?_) ?_
                              rotate_left
                              · (try dsimp only at hSw); (try subst hSw); go_simp; first | done | (with_reducible rfl)
                              simp only [Act.put, List.setIfInBounds_toArray, List.set_cons_zero, List.set_cons_succ]
                              refine wpAnyH_takeB (i := 45) (v := ?_) (d := some 103) rfl (by rfl) (by kernel_rfl) (fun _ _ _ h => h) (by rfl) rfl (fun w hSw => ?_) ?_
                              rotate_left
                              · (try dsimp only at hSw); (try subst hSw); go_simp; first | done | (with_reducible rfl)
                              simp only [Act.put, List.setIfInBounds_toArray, List.set_cons_zero, List.set_cons_succ]
                              refine wpAnyH_takeB (i := 46) (v := ?_) (d := some 104) rfl (by rfl) (by kernel_rfl) (fun _ _ _ h => h) (by rfl) rfl (fun w hSw => ?_) ?_
                              rotate_left
                              · (try dsimp only at hSw); (try subst hSw); go_simp; first | done | (with_reducible rfl)
                              simp only [Act.put, List.setIfInBounds_toArray, List.set_cons_zero, List.set_cons_succ]
                              refine wpAnyH_takeB (i := 47) (v := ?_) (d := some 105) rfl (by rfl) (by kernel_rfl) (fun _ _ _ h => h) (by rfl) rfl (fun w hSw => ?_) ?_
                              rotate_left
                              · (try dsimp only at hSw); (try subst hSw); go_simp; first | done | (with_reducible rfl)
                              simp only [Act.put, List.setIfInBounds_toArray, List.set_cons_zero, List.set_cons_succ]
                              as_aux_lemma =>
                                refine wpAnyH_oneB (i := 39) rfl (by kernel_rfl) (fun K hK => ?_)
                                refine Eq.mpr (if_pos (by rfl)) ?_
                                (go_wp2_with (go_at_call 22; refine HTA.out.mono ?_; rintro e w8 ⟨rfl, hw8⟩; rw [hw8]; clear hw8 w8))
                                refine hK.out _ _ (rfl) ?_
                                clear hK K
                                try simp only [Act.put, List.setIfInBounds_toArray, List.set_cons_zero, List.set_cons_succ]
                                refine wpAnyH_oneB (i := 40) rfl (by kernel_rfl) (fun K hK => ?_)
                                refine Eq.mpr (if_pos (by rfl)) ?_
                                (go_wp2_with (go_at_call 29; refine HTC.out.mono ?_; rintro e w8 ⟨rfl, hw8⟩; rw [hw8]; clear hw8 w8))
                                refine hK.out _ _ (rfl) ?_
                                clear hK K
                                try simp only [Act.put, List.setIfInBounds_toArray, List.set_cons_zero, List.set_cons_succ]
                                as_aux_lemma =>
                                  refine wpAnyH_takeB (i := 48) (v := ?_) (d := some 106) rfl (by rfl) (by kernel_rfl) (fun _ _ _ h => h) (by rfl) rfl (fun w hSw => ?_) ?_
                                  rotate_left
                                  · (try dsimp only at hSw); (try subst hSw); go_simp; first | done | (with_reducible rfl)
                                  simp only [Act.put, List.setIfInBounds_toArray, List.set_cons_zero, List.set_cons_succ]
                                  refine wpAnyH_takeB (i := 49) (v := ?_) (d := some 107) rfl (by rfl) (by kernel_rfl) (fun _ _ _ h => h) (by rfl) rfl (fun w hSw => ?_) ?_
                                  rotate_left
                                  · (try dsimp only at hSw); (try subst hSw); go_simp; first | done | (with_reducible rfl)
                                  simp only [Act.put, List.setIfInBounds_toArray, List.set_cons_zero, List.set_cons_succ]
                                  refine wpAnyH_done (by kernel_rfl) ?_ _
                                  go_wp2
                                  go_meet
                                  exact ⟨_, S7, _, rfl, rfl, HH7, HF7⟩
        case rest =>
          obtain ⟨w9, S9, ls9, rfl, rfl, hH9, hF9⟩ := hcut
          rename World => w9
          as_aux_lemma =>
            have hbk := hY.out.back sl (by omega) (by have := hN.out; omega) (fun f hf => by have := lsum_mem hf; omega)
            rw [← HB.out, ← HE'.out] at hbk
            obtain ⟨hrun, hY2⟩ := hbk
            have hY3 : Sync ⟨E'.t, D.max, false, false⟩ E' := by
              have h1 := hY.out.bad
              have h2 := hY.out.must
              obtain ⟨dt, dm, du, db⟩ := D
              simp only at h1 h2
              subst h1 h2
              exact hY2
            have hN2 : E'.t.n ≤ 20 * (i + 1) := by
              rw [HE'.out]
              have h1 := linesT_n E.t sl
              have h2 : (E.enc sl).t = linesT E.t sl := rfl
              have h3 := hN.out
              rw [h2]; omega
            have hR9 := HA6R.out.keepB hF9.out (fun hne k hk => (HA6F.out hne k hk).1)
            have hsz9 := hF9.out.size
            have hyb := hY.out.bad
            have hym := hY.out.must
            have hDn : D.t.n ≤ 120 := by have h1 := hY.out.n; have h2 := hN.out; omega
            have HY3 := Lib.hid hY3
            have HN2 := Lib.hid hN2
            have HR9 := Lib.hid hR9
            have HRUN := Lib.hid hrun
            have HYB := Lib.hid hyb
            have HYM := Lib.hid hym
            clear hY3 hN2 hR9 hrun hyb hym
            clear hY2 HA6R HH6 HREN hY hN
            have hdec : Calls Try.prog 30 #[.pointer (some ⟨p3, 0, none⟩), .slice A6 B.length c6] w9 (RDRes w9 S3 p3 g3 D (D.run B)) := by
              by_cases hB0 : B = []
              · have hr0 : D.run [] = some ([], D.t) := by
                  unfold De.run
                  rw [if_neg (by rw [HYB.out]; simp), HYM.out]
                  rfl
                have h := rdecode_nil A6 c6 w9 hH9.out.de HYB.out HYM.out
                rw [hB0, hr0]
                exact h
              · exact rdecode_any B A6 c6 w9 hH9.out.de HR9.out hA6c (fun k hk => by
                  obtain ⟨_, h2, _, h4⟩ := HA6F.out hB0 k hk
                  exact ⟨fun e => h2 (.inl e), fun e => h2 (.inr (.inl e)), by omega⟩) hbl (fun _ => by omega)
            have HDEC := Lib.hid hdec
            clear hdec
            go_wp2_with (fail)
            refine HDEC.out.mono ?_
            rintro e w10 hres
            unfold RDRes at hres
            rw [HRUN.out] at hres
            obtain ⟨S10, D10, hD10, hF10, hS10, A10, c10, rfl, hA10, hfar10, hDe⟩ := hres
            have hH10 := hH9.out.dec hD10 hF10 hS10
            rw [hDe] at hH10
            have hF10W := hH10.tri.frm
            have hxw := HX1.out w10 hF10W
            have hgw : ga < w10.heap.size := Nat.lt_of_lt_of_le hgaW hF10W.size
            have hR10 := HRS.out.fresh hF10W
            have hA10r := hA10.rd
            have HH10 := Lib.hid hH10
            have HR10 := Lib.hid hR10
            have HA10R := Lib.hid hA10r
            clear hH10 hR10 hA10r
            clear hD10 hF10 hS10 hA10 hfar10 hDe HRUN HR9 hF9 hH9
            go_wp2_with (go_at_call 31; refine (fields_eq sl _ _ _ _ _ HA10R.out HR10.out (by omega)).mono ?_; rintro e w11 ⟨rfl, n11, hw11⟩; rw [hw11]; clear hw11)
            have hH11 := HH10.out.fresh ((Frm.refl _ _).drewN n11)
            have HH11 := Lib.hid hH11
            clear hH11
            clear hxw hgw HH10 HR10 HA10R
            go_loopw [10, 15] (fun vk vj wi => ∃ (kz j : Nat) (S1 : Nat → Prop) (E : En) (ch : Bool) (ls1 : Nat) (S2 : Nat → Prop) (ls2 : Int) (S3 : Nat → Prop) (D : De), j ≤ 2 ∧ kz ≤ zs.length ∧ vk = .int .i64 kz ∧ vj = .int .i64 j ∧
              Hid (HBk W wi S1 p1 g1 E ch ls1 S2 p2 g2 E ls2 S3 p3 g3 D) ∧ Hid (Sync D E) ∧ Hid (E.t.n ≤ 20 * (i + 1))) (fun _ vj _ => 2 - (intOf vj).toNat)
            case atStart => exact ⟨kz, 0, S6, E', false, ls1, S9, ls9, S10, _, by omega, hkz, rfl, rfl, HH11, HY3, HN2⟩
            case round =>
              obtain ⟨kz2, j, T1, E2, ch2, ms1, T2, ms2, T3, D2, hj, hkz2, rfl, rfl, hH, hY, hN⟩ := hrel
              rename World => wi
              clear HH11 HY3 HN2
              by_cases hj2 : j < 2
              · by_cases hk2 : kz2 < zs.length
                · obtain ⟨gz, oz, rfl, hzW⟩ := int_get HR2.out kz2 hk2
                  have hzo := HOK2.out zs[kz2] (List.getElem_mem hk2)
                  generalize zs[kz2] = z at *
                  obtain ⟨z0, z1⟩ := hzo
                  have hgzW := World.block_lt_of_cell? _ _ hzW
                  have hZ : ∀ w', Frm (New W) W w' → w'.cell? ⟨gz, oz + kz2, none⟩ = some (.int .i64 z) := fun w' f => by
                    rw [f.cell (by unfold New; simp only at hgzW ⊢; omega)]; exact hzW
                  have hzw := hZ wi hH.out.tri.frm
                  have hgz : gz < wi.heap.size := Nat.lt_of_lt_of_le hgzW hH.out.tri.frm.size
                  have HZ := Lib.hid hZ
                  clear hZ
                  clear hzW
                  go_wp2_with (fail)
                  refine (eresize_any z z0 z1 wi hH.out.en).mono ?_
                  rintro e w12 ⟨rfl, ls12, hE12, hF12⟩
                  have hH12 := hH.out.enc hE12 hF12 (fun _ hk => .inl hk)
                  clear hzw hgz hE12 hF12
                  have hzw := HZ.out w12 hH12.tri.frm
                  have hgz : gz < w12.heap.size := Nat.lt_of_lt_of_le hgzW hH12.tri.frm.size
                  have HH12 := Lib.hid hH12
                  clear hH12
                  go_wp2_with (fail)
                  refine (reresize_any z z0 z1 w12 HH12.out.re).mono ?_
                  rintro e w13 ⟨rfl, ls13, hE13, hF13⟩
                  have hH13 := HH12.out.ren hE13 hF13 (fun _ hk => .inl hk)
                  clear hzw hgz hE13 hF13
                  have hbd := hH13.de.blk
                  have hd1 := hbd.cell 1
                  simp only [List.getElem?_toArray, List.getElem?_cons_zero, List.getElem?_cons_succ] at hd1
                  have hz1 := hbd.frozen 1
                  have hdl := hbd.lt
                  have hM := hH13.de.max4
                  have hH14 := hH13.dec hM.1 hM.2 (fun _ hk => .inl hk)
                  have hY14 := hY.out.resize z
                  have hN14 : (E2.resize z).t.n ≤ 20 * (i + 1) := hN.out
                  have HH13 := Lib.hid hH13
                  have HH14 := Lib.hid hH14
                  have HY14 := Lib.hid hY14
                  have HN14 := Lib.hid hN14
                  have HBD := Lib.hid hbd
                  clear hH13 hH14 hY14 hN14 hbd
                  clear hM
                  go_wp2
                  go_roundw
                  case rel => exact ⟨kz2 + 1, j + 1, T1, E2.resize z, true, ls12, T2, ls13, T3, _, by omega, by omega, by go_num, by go_num, HH14, HY14, HN14⟩
                  case measure => simp [intOf]; omega
                · go_wp2
                  go_roundw
                  case rel => exact ⟨kz2, i + 1, T1, E2, ch2, ms1, T2, ms2, T3, D2, by omega, hkz2, rfl, by go_num, hH, hY, hN⟩
                  case measure => simp [intOf]; omega
              · go_wp2
                go_roundw
                case rel => exact ⟨kz2, i + 1, T1, E2, ch2, ms1, T2, ms2, T3, D2, by omega, hkz2, rfl, by go_num, hH, hY, hN⟩
                case measure => simp [intOf]; omega
    · obtain rfl : i = L.length := by omega
      go_wp2
      go_ret
      exact ⟨rfl, hH.out.tri.frm.below⟩
end Go.Proofs.Ytcebckkpablagaa.M
