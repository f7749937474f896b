/- bifoldlaw7.HencSecrets: for every input it tells true. Strings below 2^50. -/
import Derived.Test.YtcebckkpablagaaKnow
import Derived.Test.YtcebckkpablagaaIn
import Derived.Test.YtcebckkpablagaaLight
import Derived.Test.YtcebckkpablagaaNewest
import Derived.Test.YtcebckkpablagaaSecp
namespace Go.Proofs.Ytcebckkpablagaa.M
open Go.ChangeShapes Go.WideShapes Go.ChangeAt Go.RowKit

/-- an argument: a slice of the fields l -/
structure FIn (W : World) (A : Option Addr) (n c : Nat) (l : List Fld) : Prop where
  len : n = l.length
  rd : Rd W A (fvs l)
  low : ∀ k, blk A = some k → k < W.heap.size
  nil_ : A = none → n = 0
  cap : n ≤ c
  max : c ≤ maxLen
  small : ∀ f ∈ l, f.1.length ≤ 1125899906842624 ∧ f.2.length ≤ 1125899906842624

/-- a slice of the fields ms that may be written: nil, or a block that is new to W -/
def MB (W w : World) (A : Option Addr) (ms : List Fld) : Prop := (ms = [] ∧ A = none) ∨ ∃ g, A = some ⟨g, 0, none⟩ ∧ W.heap.size ≤ g ∧ FB w g ms

theorem fsizes_lsum (l : List Fld) : fsizes l = lsum l + 32 * l.length := by
  induction l with
  | nil => rfl
  | cons f l ih =>
    have h : lsum (f :: l) = f.1.length + f.2.length + lsum l := by simp [lsum]
    rw [fsizes_cons, h, ih, fsize, List.length_cons]; omega

set_option maxRecDepth 100000 in
set_option maxHeartbeats 1000000 in
theorem secrets_walk (A : Option Addr) (n c : Nat) (l : List Fld) (A1 : Option Addr) (n1 c1 : Nat) (bs : Bytes) (W : World) (h : FIn W A n c l) (h1 : BIn W A1 n1 c1 bs) :
    Calls Try.prog 5 #[.slice A n c, .slice A1 n1 c1] W fun e w' => e = .returned (.bool true) ∧ Below W.heap.size W w' := by
  obtain ⟨hn, hR, hlow, hnil, hcap, hmax, hsm⟩ := h
  obtain ⟨hn1, hR1, hlow1, hnil1, hcap1, hmax1⟩ := h1
  have hcz : c ≤ 9223372036854775807 := hmax
  have hcz1 : c1 ≤ 9223372036854775807 := hmax1
  subst hn
  subst hn1
  have HR := Lib.hid hR
  have HR1 := Lib.hid hR1
  have HSM := Lib.hid hsm
  clear hR hlow hnil hmax hR1 hlow1 hnil1 hmax1 hsm
  by_cases q1 : 12 < l.length
  · go_enter Try.func5, Try.ntmps5
    go_wp2_with (go_at_call 15; refine (known7_any _).mono ?_; rintro e w1 ⟨rfl, hF1⟩; have HF1 := Lib.hid hF1; clear hF1)
    go_ret
    exact ⟨rfl, HF1.out.below⟩
  have hL : ∀ w, Frm (New W) W w → Calls Try.prog 18 #[.slice A l.length c] w fun e w' => e = .returned (.bool (light l)) ∧ Frm (New w) w w' := fun w hw =>
    light_any l A c w (HR.out.fresh hw) HSM.out (by omega)
  have HQ : Hid (light l = decide (l.length ≤ 70 ∧ lsum l ≤ 3000)) := rfl
  generalize light l = li at *
  have HL := Lib.hid hL
  clear hL
  by_cases q2 : bs.length < l.length
  · cases li
    all_goals
      go_enter Try.func5, Try.ntmps5
      go_wp2_with (first
        | (go_at_call 15; refine (known7_any _).mono ?_; rintro e w1 ⟨rfl, hF1⟩; have HF1 := Lib.hid hF1; clear hF1)
        | (go_at_call 18; refine (HL.out _ HF1.out).mono ?_; rintro e w2 ⟨rfl, hF2⟩; have HF2 := Lib.hid hF2; clear hF2))
      go_ret
      exact ⟨rfl, (HF1.out.then_new Up.new HF2.out).below⟩
  cases li with
  | false =>
    go_enter Try.func5, Try.ntmps5
    go_wp2_with (first
      | (go_at_call 15; refine (known7_any _).mono ?_; rintro e w1 ⟨rfl, hF1⟩; have HF1 := Lib.hid hF1; clear hF1)
      | (go_at_call 18; refine (HL.out _ HF1.out).mono ?_; rintro e w2 ⟨rfl, hF2⟩; have HF2 := Lib.hid hF2; clear hF2))
    go_ret
    exact ⟨rfl, (HF1.out.then_new Up.new HF2.out).below⟩
  | true =>
    have hls : lsum l ≤ 3000 := (of_decide_eq_true HQ.out.symm).2
    have hfs := fsizes_lsum l
    clear HQ
    go_enter Try.func5, Try.ntmps5
    go_upto_region 6 with (first
      | (go_at_call 15; refine (known7_any _).mono ?_; rintro e w1 ⟨rfl, hF1⟩; have HF1 := Lib.hid hF1; clear hF1)
      | (go_at_call 18; refine (HL.out _ HF1.out).mono ?_; rintro e w2 ⟨rfl, hF2⟩; have HF2 : Hid (Frm (New W) W w2) := HF1.out.then_new Up.new hF2; clear hF2)
      | (go_at_call 20
         refine (enew_any 4096 (by omega) (by omega) _).mono ?_
         rintro e w3 ⟨S, p, g, rfl, hE3, hF3, hS3, hp3⟩
         have HE3 := Lib.hid hE3
         have HF3 : Hid (Frm (New W) W w3) := HF2.out.then_new Up.new hF3
         have HS3 : Hid (∀ k, S k → W.heap.size ≤ k) := fun k hk => Nat.le_trans HF2.out.size (hS3 k hk)
         have hp3 : W.heap.size ≤ p := Nat.le_trans HF2.out.size hp3
         clear hE3 hF3 hS3))
    clear HL HF1 HF2
    have hn0 : (En.new 4096).t.n = 0 := rfl
    have hl00 : (En.new 4096).t.l = [] := rfl
    generalize En.new 4096 = E0 at *
    have HN0 := Lib.hid hn0
    have HL00 := Lib.hid hl00
    clear hn0 hl00
    go_cut [6] from 12 (fun v6 w4 => ∃ Am cm, v6 = .slice Am l.length cm ∧ Hid (MB W w4 Am l) ∧ Hid (Frm (New w3) w3 w4) ∧ Hid (∀ k, M.blk Am = some k → w3.heap.size ≤ k) ∧ l.length ≤ cm)
    case first =>
      have hR3 := HR.out.fresh HF3.out
      by_cases hl0 : l.length = 0
      · have HL0 := Lib.hid hl0
        clear hl0
        go_wp2_with (at_builtin; refine wpList_append flds rfl rfl rfl App.none_ (M := New w3) Up.new rfl hR3 (by rw [fvs_length]; omega) (fvs_one _) (by omega) ?_; intro A4 c4 w4 hA4 hF4 hb4 _)
        go_meet
        refine ⟨A4, c4, by simp, .inl ⟨List.eq_nil_of_length_eq_zero HL0.out, ?_⟩, hF4, hA4.inM, by have := hA4.cap; omega⟩
        rcases hb4 with ⟨e, _⟩ | ⟨_, e⟩
        · cases A4 with
          | none => rfl
          | some x => cases e
        · have := HL0.out
          omega
      · go_wp2_with (at_builtin; refine wpList_append_nil flds rfl rfl rfl rfl (by omega) hR3 (by rw [fvs_length]; omega) (by omega) ?_; intro c4 cs4 w4 hB4 hT4 hF4 hc4 _)
        go_meet
        obtain ⟨tail, ht⟩ := hT4
        exact ⟨some ⟨w3.heap.size, 0, none⟩, c4, rfl, .inr ⟨_, rfl, HF3.out.size, ⟨cs4, tail, hB4, ht⟩⟩, hF4, fun k hk => by cases hk; exact Nat.le_refl _, hc4⟩
    case rest =>
      obtain ⟨Am, cm, rfl, HM4, HF4, HLO, hcm⟩ := hcut
      rename World => w4
      have HE4 := Lib.hid (HE3.out.fresh HF4.out)
      have HSL := Lib.hid HE3.out.tab.low
      have hpl := HE3.out.blk.lt
      have HF4' : Hid (Frm (New W) W w4) := HF3.out.then_new Up.new HF4.out
      clear HE3 HF4
      go_wp2
      go_loopw [7] (fun i wr => ∃ (k : Nat) (ms : List Fld), k ≤ l.length ∧ i = .int .i64 k ∧ ms.length = l.length ∧ Hid (fsizes ms ≤ 3384 + 13 * k) ∧ Hid (MB W wr Am ms) ∧ Hid (EnAt S wr p g E0 false 0) ∧ Hid (Frm (New W) W wr)) (fun i _ => l.length - (intOf i).toNat)
      case atStart => exact ⟨0, l, Nat.zero_le _, rfl, rfl, by show _ ≤ _; omega, HM4, HE4, HF4'⟩
      case round =>
        obtain ⟨k, ms, hk, rfl, hml, hsz, hM, hE, hF⟩ := hrel
        clear HM4 HE4 HF4'
        by_cases hlt : k < l.length
        · obtain ⟨gm, rfl, hgm, hFB⟩ : ∃ gm, Am = some ⟨gm, 0, none⟩ ∧ W.heap.size ≤ gm ∧ FB wr gm ms := by
            rcases hM.out with ⟨e, _⟩ | h
            · rw [e] at hml; simp at hml; omega
            · exact h
          have hRw := HR1.out.fresh hF.out
          obtain ⟨gw, offw, rfl, hw⟩ := hRw.at_ (k := k) (by simp [bvs]; omega)
          have hw2 : (bvs bs)[k]'(by simp [bvs]; omega) = .int .u8 (bs[k].toNat : Int) := by simp [bvs, bv]
          rw [hw2] at hw
          have hx := bs[k].toNat_lt
          have hgw : gw < wr.heap.size := World.block_lt_of_cell? _ _ hw
          clear hw2 hRw
          generalize bs[k].toNat = x at *
          obtain ⟨hm1, _⟩ := fld_cells hFB.rd k (by omega)
          simp only [Nat.zero_add] at hm1
          have hmz := hFB.frozen (k * 2)
          have hmg := hFB.lt
          have hset := fun s => hFB.set_ k s (by omega)
          have hfs2 := fun s => fsizes_set ms k s (by omega)
          have HFB := Lib.hid hFB
          have HSET := Lib.hid hset
          have HFS := Lib.hid hfs2
          clear hFB hset hfs2
          obtain ⟨r, hr⟩ : ∃ r, r = x % 6 := ⟨_, rfl⟩
          have hmod : ((x : Int) % 6) = (r : Int) := by omega
          have hmod2 : Int.tmod (x : Int) 6 = (r : Int) := by rw [Int.tmod_eq_emod_of_nonneg (by omega)]; omega
          have hr6 : r < 6 := by omega
          have HX := Lib.hid hr
          clear hr
          by_cases hr3 : 3 ≤ r
          · go_wp2
            go_roundw
            case rel => exact ⟨k + 1, ms, by omega, by go_num, hml, by have := hsz.out; show _ ≤ _; omega, hM, hE, hF⟩
            case measure => simp [intOf]; omega
          · obtain rfl | rfl | rfl : r = 0 ∨ r = 1 ∨ r = 2 := by omega
            · clear hmod hmod2 hr3 hr6
              have hmod : (x : Int) % 6 = 0 := by have := HX.out; omega
              have hmod2 : Int.tmod (x : Int) 6 = 0 := by rw [Int.tmod_eq_emod_of_nonneg (by omega)]; exact hmod
              go_wp2
              go_roundw
              case rel =>
                have hlo := HLO.out gm rfl
                have e1 := HSET.out bAuth
                have e2 := HFS.out bAuth
                have e3 : bAuth.length ≤ 13 := by decide
                have hFs : Frm (fun j => j = gm) wr (wr.setCell ⟨gm, k * 2, none⟩ (str bAuth)) := (Frm.refl (fun j => j = gm) wr).setCell (p := ⟨gm, k * 2, none⟩) rfl _
                refine ⟨k + 1, ms.set k (bAuth, (ms[k]'(by omega)).2), by omega, by go_num, by rw [List.length_set]; exact hml, ?_, .inr ⟨gm, rfl, hgm, FB.fresh e1 ((Frm.refl _ _).alloc Up.new _)⟩, ?_, ?_⟩
                · have := hsz.out
                  show _ ≤ _
                  omega
                · exact (hE.out.keep hFs (fun j hj c => by have := HSL.out j hj; omega) (by omega)).fresh ((Frm.refl _ _).alloc Up.new _)
                · exact (hF.out.setCell (p := ⟨gm, k * 2, none⟩) hgm _).alloc Up.new _
              case measure => simp [intOf]; omega
            · clear hmod hmod2 hr3 hr6
              have hmod : (x : Int) % 6 = 1 := by have := HX.out; omega
              have hmod2 : Int.tmod (x : Int) 6 = 1 := by rw [Int.tmod_eq_emod_of_nonneg (by omega)]; exact hmod
              go_wp2
              go_roundw
              case rel =>
                have hlo := HLO.out gm rfl
                have e1 := HSET.out bCookie
                have e2 := HFS.out bCookie
                have e3 : bCookie.length ≤ 13 := by decide
                have hFs : Frm (fun j => j = gm) wr (wr.setCell ⟨gm, k * 2, none⟩ (str bCookie)) := (Frm.refl (fun j => j = gm) wr).setCell (p := ⟨gm, k * 2, none⟩) rfl _
                refine ⟨k + 1, ms.set k (bCookie, (ms[k]'(by omega)).2), by omega, by go_num, by rw [List.length_set]; exact hml, ?_, .inr ⟨gm, rfl, hgm, FB.fresh e1 ((Frm.refl _ _).alloc Up.new _)⟩, ?_, ?_⟩
                · have := hsz.out
                  show _ ≤ _
                  omega
                · exact (hE.out.keep hFs (fun j hj c => by have := HSL.out j hj; omega) (by omega)).fresh ((Frm.refl _ _).alloc Up.new _)
                · exact (hF.out.setCell (p := ⟨gm, k * 2, none⟩) hgm _).alloc Up.new _
              case measure => simp [intOf]; omega
            · clear hmod hmod2 hr3 hr6
              have hmod : (x : Int) % 6 = 2 := by have := HX.out; omega
              have hmod2 : Int.tmod (x : Int) 6 = 2 := by rw [Int.tmod_eq_emod_of_nonneg (by omega)]; exact hmod
              go_wp2
              go_roundw
              case rel =>
                have hlo := HLO.out gm rfl
                have e1 := HSET.out bSetCookie
                have e2 := HFS.out bSetCookie
                have e3 : bSetCookie.length ≤ 13 := by decide
                have hFs : Frm (fun j => j = gm) wr (wr.setCell ⟨gm, k * 2, none⟩ (str bSetCookie)) := (Frm.refl (fun j => j = gm) wr).setCell (p := ⟨gm, k * 2, none⟩) rfl _
                refine ⟨k + 1, ms.set k (bSetCookie, (ms[k]'(by omega)).2), by omega, by go_num, by rw [List.length_set]; exact hml, ?_, .inr ⟨gm, rfl, hgm, FB.fresh e1 ((Frm.refl _ _).alloc Up.new _)⟩, ?_, ?_⟩
                · have := hsz.out
                  show _ ≤ _
                  omega
                · exact (hE.out.keep hFs (fun j hj c => by have := HSL.out j hj; omega) (by omega)).fresh ((Frm.refl _ _).alloc Up.new _)
                · exact (hF.out.setCell (p := ⟨gm, k * 2, none⟩) hgm _).alloc Up.new _
              case measure => simp [intOf]; omega
        · obtain rfl : k = l.length := by omega
          have hRm : Rd wr Am (fvs ms) := by
            rcases hM.out with ⟨e, _⟩ | ⟨g0, e, _, h⟩
            · rw [e]; exact Rd.nil
            · rw [e]; exact h.rd
          have HRM := Lib.hid hRm
          have hszo := hsz.out
          have hm12 : ms.length ≤ 12 := by omega
          rw [← hml] at hszo
          have HNS : Hid (∀ f ∈ (E0.enc ms).t.l, secret f.1 = false) := linesT_secret ms E0.t (fun f hf => by rw [HL00.out] at hf; cases hf)
          have hFarm : Hid (∀ j, M.blk Am = some j → j ≠ p ∧ ¬ S j) := fun j hj =>
            ⟨fun e => Nat.lt_irrefl _ (Nat.lt_of_lt_of_le hpl (by rw [← e]; exact HLO.out j hj)), fun c => Nat.lt_irrefl _ (Nat.lt_of_lt_of_le (HSL.out j c) (HLO.out j hj))⟩
          have hfz : Hid (fsizes ms ≤ 68719476736) := by show _ ≤ _; omega
          have hnz : Hid (E0.t.n + ms.length ≤ 1152921504606846976) := by show _ ≤ _; rw [HN0.out]; omega
          have hEnc := encB_any ms Am cm wr hE.out HRM.out hFarm.out hfz.out hnz.out
          rw [hml] at hEnc
          have HENC := Lib.hid hEnc
          clear hRm hM hEnc
          go_upto_region 14 with (first
            | (go_at_call 21
               refine HENC.out.mono ?_
               rintro e w5 ⟨S5, A5, c5, rfl, _, _, hE5, hF5, _⟩
               have hF6 : Hid (Frm (New W) W w5) := hF.out.trans (hF5.mono (fun j hj => by
                 have h0 := hF.out.size
                 rcases hj with hj | hj | hj
                 · rw [hj]; exact hp3
                 · exact HS3.out j hj
                 · exact Nat.le_trans h0 hj))
               have HE5 := Lib.hid hE5
               clear hE5 hF5))
          generalize E0.enc ms = E5 at *
          obtain ⟨hl5, hn5⟩ := HE5.out.tab.nb
          go_wp2
          go_loopw [9] (fun i wr => ∃ k : Nat, i = .int .i64 k ∧ k ≤ E5.t.l.length ∧ Hid (Frm (New w5) w5 wr)) (fun i _ => E5.t.l.length - (intOf i).toNat)
          case atStart => exact ⟨0, rfl, Nat.zero_le _, Frm.refl _ _⟩
          case round =>
            obtain ⟨k, rfl, hk5, hF7⟩ := hrel
            have HE7 := Lib.hid (HE5.out.fresh hF7.out)
            by_cases hlt : k < E5.t.l.length
            · have hnw : newestS E5.t.l k = (E5.t.l[E5.t.l.length - 1 - k], true) := by unfold newestS; rw [dif_pos hlt]
              have hsf := HNS.out _ (List.getElem_mem (show E5.t.l.length - 1 - k < E5.t.l.length by omega))
              have hNw : ∀ w', TabS S5 w' g E5.t → Calls Try.prog 24 #[.pointer (some ⟨g, 0, none⟩), .int .u64 k] w' fun e w'' => e = .returned (.tuple #[fld (E5.t.l[E5.t.l.length - 1 - k]), .bool true]) ∧ Frm (New w') w' w'' := fun w' hw' => by
                have := tnewest_any (T := E5.t) k w' hw' (by omega)
                rw [hnw] at this
                exact this
              generalize E5.t.l[E5.t.l.length - 1 - k] = f at *
              obtain ⟨f1, f2⟩ := f
              have hSc : ∀ w', Calls Try.prog 19 #[.string ⟨f1.toArray⟩] w' fun e w'' => e = .returned (.bool false) ∧ w'' = w' := fun w' => by
                have := rsecret_any f1 w'
                rw [hsf] at this
                exact this
              simp only [fld, str] at hNw
              have HNW := Lib.hid hNw
              have HSC := Lib.hid hSc
              have hlz : E5.t.l.length ≤ 1152921504606846976 := by omega
              clear hnw hsf hNw hSc
              go_wp2_with (first
                | (go_at_call 22; refine (table_any _ HE7.out).mono ?_; rintro e w8 ⟨rfl, rfl⟩)
                | (go_at_call 23; refine (tlenS_any _ HE7.out.tab).mono ?_; rintro e w8 ⟨rfl, rfl⟩)
                | (go_at_call 24
                   refine (HNW.out _ HE7.out.tab).mono ?_
                   rintro e w8 ⟨rfl, hF8⟩
                   have HF8 : Hid (Frm (New w5) w5 w8) := hF7.out.then_new Up.new hF8
                   clear hF8)
                | (go_at_call 19; refine (HSC.out _).mono ?_; rintro e w9 ⟨rfl, rfl⟩))
              go_roundw
              case rel => exact ⟨k + 1, by go_num, by omega, HF8.out.alloc Up.new _⟩
              case measure => simp [intOf]; omega
            · go_wp2_with (first
                | (go_at_call 22; refine (table_any _ HE7.out).mono ?_; rintro e w8 ⟨rfl, rfl⟩)
                | (go_at_call 23; refine (tlenS_any _ HE7.out.tab).mono ?_; rintro e w8 ⟨rfl, rfl⟩))
              go_ret
              exact ⟨rfl, (hF6.out.then_new Up.new hF7.out).below⟩
end Go.Proofs.Ytcebckkpablagaa.M
