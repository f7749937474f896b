/- The document's Buffer: Add. No condition but sizes. -/
import Derived.BigQuiet
import Derived.Deep.CutBlock
import Derived.Lib.Hide
import Derived.IntWalk
import Derived.Deep.QuietTactic
import Derived.StillTailTactics
import Derived.Test.YtljleaomlooiaaaRf3
namespace Go.Proofs.Ytljleaomlooiaaa.M
open Go.ChangeShapes Go.WideShapes Go.ChangeAt Go.RowKit

def Rf.adds (F : Rf) (off : Nat) (b : Bytes) (f : Bool) : Nat := F.chk (stp off b) (decide (stp off b < off)) f
def Rf.add' (F : Rf) (off : Nat) (b : Bytes) (f : Bool) : Rf :=
  if F.adds off b f = 0 ∧ F.done = false then ⟨F.mx, rlay bv off b F.a F.es, F.a, if b = [] ∧ f = false then F.en else max F.en (off + b.length), if f = true then off + b.length else F.fin, F.known || f, F.gone⟩ else F
/-- what the document's Add leaves -/
def RAddR (S : Nat → Prop) (w : World) (p m : Nat) (F : Rf) (off : Nat) (b : Bytes) (f : Bool) (e : Ending) (w' : World) : Prop :=
  e = .returned (.int .i64 (F.adds off b f : Nat)) ∧ RfAt S w' p (F.add' off b f) m ∧ Frm (Own S w) w w'
theorem rlay_step (off : Nat) (b : Bytes) (a k : Nat) (es : List (Nat × Value)) (hk : k < b.length) : rlay bv (off + k) (b.drop k) a es = rlay bv (off + (k + 1)) (b.drop (k + 1)) a (if (getE (off + k) es).isNone && decide (a ≤ off + k) then putE (off + k) (bv b[k]) es else es) := by
  rw [List.drop_eq_getElem_cons hk]
  rfl

set_option maxRecDepth 100000 in
set_option maxHeartbeats 2000000 in
theorem radd_any {S : Nat → Prop} {p m cb : Nat} {F : Rf} {Ab : Option Addr} (off : Nat) (b : Bytes) (f : Bool) (w : World) (h : RfAt S w p F m) (hx : Ext S w Ab (bvs b)) (hlb : b.length ≤ 1099511627776) (ho : off < 18446744073709551616) (hmx : F.mx ≤ 4611686018427387903) :
    Calls Try.prog 20 #[.pointer (some ⟨p, 0, none⟩), .int .u64 off, .slice Ab b.length cb, .bool f] w (RAddR S w p m F off b f) := by
  generalize hQ : RAddR S w p m F off b f = Q
  have HQ := Lib.hid hQ
  clear hQ
  have hwr : IntKind.u64.wrap ((off : Int) + (b.length : Int)) = ((stp off b : Nat) : Int) := by
    show ((off : Int) + (b.length : Int)) % 18446744073709551616 = _
    unfold stp
    omega
  have hck := fun over => rcheck_any F (stp off b) over f p m w h.blk
  obtain ⟨st, hst⟩ : ∃ st, st = stp off b := ⟨_, rfl⟩
  rw [← hst] at hwr hck
  have HADD : Hid (F.adds off b f = F.chk st (decide (st < off)) f) := by show _ = _; rw [hst]; rfl
  have hs64 : st < 18446744073709551616 := by rw [hst]; exact Nat.mod_lt _ (by omega)
  have hdn := rdone_any F p m w h.blk
  have HCK := Lib.hid hck
  have HST := Lib.hid hst
  have HDN := Lib.hid hdn
  have H := Lib.hid h
  have HX := Lib.hid hx
  clear hck hst hdn h hx
  by_cases he : F.adds off b f = 0
  · have he0 := he
    rw [HADD.out] at he0
    have HE := Lib.hid he
    have hzr := rchk_zero he0
    have hse : st = off + b.length := by
      have h1 := of_decide_eq_false hzr.1
      have h2 := HST.out
      unfold stp at h2
      omega
    rw [hse] at hzr
    clear he
    have hb := H.out.blk
    unfold Rf.cells at hb
    have h6 := hb.cell 6
    simp only [List.getElem?_toArray, List.getElem?_cons_zero, List.getElem?_cons_succ] at h6
    have hp := hb.lt
    have hsame : ∀ n, (F.done = true) → RAddR S w p m F off b f (.returned (.int .i64 0)) (w.drewN n) := fun n hd => by
      refine ⟨by rw [HE.out]; rfl, ?_, (Frm.refl _ w).drewN n⟩
      unfold Rf.add'
      rw [if_neg (fun c => by rw [hd] at c; cases c.2)]
      exact H.out.fresh ((Frm.refl _ w).drewN n)
    rw [HQ.out] at hsame
    have HSE := Lib.hid hse
    have HZR := Lib.hid hzr
    have HSAME := Lib.hid hsame
    have HB := Lib.hid hb
    clear hse hzr hsame hb
    cases hg : F.gone with
    | true =>
      rw [hg] at h6
      have hs := HSAME.out 0 (by unfold Rf.done; rw [hg]; rfl)
      have HS := Lib.hid hs
      clear hs
      clear hg
      go_enter Try.func20, Try.ntmps20
      go_upto_region 6 with (go_at_call 26; refine (HCK.out _).mono ?_; rintro e w1 ⟨rfl, hw1⟩; rw [hw1]; clear hw1)
      go_wp2
      exact HS.out
    | false =>
      rw [hg] at h6
      have HG := Lib.hid hg
      clear hg
      cases hd : F.done with
      | true =>
        rw [hd] at HDN
        have hs := fun n => HSAME.out n hd
        have HS := Lib.hid hs
        have HD := Lib.hid hd
        clear hs hd
        go_enter Try.func20, Try.ntmps20
        go_upto_region 6 with (first | (go_at_call 26; refine (HCK.out _).mono ?_; rintro e w1 ⟨rfl, hw1⟩; rw [hw1]; clear hw1) | (go_at_call 21; refine HDN.out.mono ?_; rintro e w1 ⟨rfl, q, rfl⟩))
        go_wp2
        exact HS.out q
      | false =>
        rw [hd] at HDN
        have HD := Lib.hid hd
        clear hd
        go_enter Try.func20, Try.ntmps20
        go_upto_region 8 with (first | (go_at_call 26; refine (HCK.out _).mono ?_; rintro e w1 ⟨rfl, hw1⟩; rw [hw1]; clear hw1) | (go_at_call 21; refine HDN.out.mono ?_; rintro e w1 ⟨rfl, q, rfl⟩))
        have h1 := H.out.fresh ((Frm.refl (New w) w).drewN q)
        have hx1 := HX.out.fresh ((Frm.refl (New w) w).drewN q)
        have hF1 := (Frm.refl (Own S w) w).drewN q
        clear h6 hp HSAME HB he0
        generalize w.drewN q = w1 at *
        have H1 := Lib.hid h1
        have HX1 := Lib.hid hx1
        have HF1 := Lib.hid hF1
        clear h1 hx1 hF1
        go_loopw [11] (fun v11 wr => ∃ (k : Nat) (es : List (Nat × Value)), k ≤ b.length ∧ v11 = .int .i64 k ∧ Hid (RfAt S wr p { F with es := es } m) ∧ Hid (rlay bv off b F.a F.es = rlay bv (off + k) (b.drop k) F.a es) ∧ Hid (Frm (fun q => q = m ∨ New w1 q) w1 wr)) (fun v11 _ => b.length - (intOf v11).toNat)
        case atStart => exact ⟨0, F.es, Nat.zero_le _, rfl, H1, rfl, Frm.refl _ _⟩
        case round =>
          obtain ⟨k, es, hk, rfl, hrf, hrl, hF⟩ := hrel
          by_cases hlt : k < b.length
          · have hRb : Rd wr Ab (bvs b) := HX1.out.off hF.out (fun q e => by
              rcases e with e | e
              · exact .inl (by rw [e]; exact H.out.sm)
              · exact .inr e)
            obtain ⟨gB, oB, rfl, hxk⟩ := hRb k (bv b[k]) (by unfold bvs; rw [List.getElem?_map, List.getElem?_eq_getElem hlt]; rfl)
            have hbb := hrf.out.blk
            unfold Rf.cells at hbb
            have hd1 := hbb.cell 1
            have hd2 := hbb.cell 2
            simp only [List.getElem?_toArray, List.getElem?_cons_zero, List.getElem?_cons_succ] at hd1 hd2
            have hp := hbb.lt
            have hgl := World.block_lt_of_cell? _ _ hxk
            obtain ⟨o, hok⟩ : ∃ o, o = off + k := ⟨_, rfl⟩
            have hol : o < 4611686018427387904 := by have := HZR.out.2.1; omega
            have hwo : IntKind.u64.wrap ((off : Int) + (k : Int)) = (o : Int) := by rw [show (off : Int) + (k : Int) = (o : Int) by omega]; exact IntWalk.u64_in _ (by omega)
            have hsu : (off : Int) + (k : Int) = (o : Int) := by omega
            have hrs := rlay_step off b F.a k es hlt
            rw [← hok] at hrs
            rw [← hok] at hrl
            have hrl := hrl.out
            rw [hrs] at hrl
            obtain ⟨x, hxx⟩ : ∃ x, x = b[k] := ⟨_, rfl⟩
            rw [← hxx] at hxk hrl
            unfold bv at hxk
            have HRL := Lib.hid hrl
            have HRS := Lib.hid hrs
            have HOK := Lib.hid hok
            have HXX := Lib.hid hxx
            have HBB := Lib.hid hbb
            clear hrl hrs hok hxx hbb
            by_cases hput : getE o es = none ∧ F.a ≤ o
            · obtain ⟨hg, hao⟩ := hput
              have hao1 : (F.a : Int) ≤ (o : Int) := by omega
              have hrl2 := HRL.out
              rw [if_pos (by rw [hg]; simpa using hao)] at hrl2
              have HRL2 := Lib.hid hrl2
              clear hrl2
              go_upto_region 13 with (refine wpList_lookup ukeys Try.underlying46 zu8 rfl rfl rfl (k := o) rfl hrf.out.map ?_; rw [hg]; simp only [Option.getD_none, Option.isSome_none, if_true])
              go_still_tail 9, (by kernel_rfl)
              change wpList _ _ _ _ _ wr.drew
              refine wpList_update ukeys Try.underlying46 rfl rfl rfl (k := o) rfl (hrf.out.map.fresh (Frm.refl _ _).drew) ?_
              intro w5 hm5 hF5 hs5
              have hrf5 := (hrf.out.fresh ((Frm.refl (New wr) wr).drew)).setmap hm5 hF5
              have hF15 := (hF.out.drew).trans (hF5.mono (fun q hq => (.inl hq : q = m ∨ New w1 q)))
              clear hd1 hd2 hp hgl hxk hm5 hF5 hs5 hg hRb
              have HRF5 := Lib.hid hrf5
              have HF15 := Lib.hid hF15
              clear hrf5 hF15
              go_wp2
              go_roundw
              case rel => exact ⟨k + 1, putE o (bv x) es, by omega, by go_num, HRF5, HRL2, HF15⟩
              case measure => simp [intOf]; omega
            · have hrl2 := HRL.out
              rw [if_neg (fun c => hput (by simpa using c))] at hrl2
              have HRL2 := Lib.hid hrl2
              clear hrl2
              cases hg : getE o es with
              | some y =>
                have HP := Lib.hid hput
                clear hput
                go_wp2_with (refine wpList_lookup ukeys Try.underlying46 zu8 rfl rfl rfl (k := o) rfl hrf.out.map ?_; rw [hg]; simp only [Option.getD_some, Option.isSome_some, if_true])
                go_roundw
                case rel => exact ⟨k + 1, es, by omega, by go_num, hrf, HRL2, hF⟩
                case measure => simp [intOf]; omega
              | none =>
                have hao : ¬ F.a ≤ o := fun c => hput ⟨hg, c⟩
                have hao1 : ¬ (F.a : Int) ≤ (o : Int) := by omega
                clear hput
                go_wp2_with (refine wpList_lookup ukeys Try.underlying46 zu8 rfl rfl rfl (k := o) rfl hrf.out.map ?_; rw [hg]; simp only [Option.getD_none, Option.isSome_none, if_true])
                go_roundw
                case rel => exact ⟨k + 1, es, by omega, by go_num, hrf, HRL2, hF⟩
                case measure => simp [intOf]; omega
          · obtain rfl : k = b.length := by omega
            have hrl2 := hrl.out
            rw [List.drop_eq_nil_of_le (Nat.le_refl _)] at hrl2
            have hes : es = rlay bv off b F.a F.es := hrl2.symm
            have hb := hrf.out.blk
            unfold Rf.cells at hb
            have hd3 := hb.cell 3
            have hd4 := hb.cell 4
            have hd5 := hb.cell 5
            simp only [List.getElem?_toArray, List.getElem?_cons_zero, List.getElem?_cons_succ] at hd3 hd4 hd5
            have hp := hb.lt
            have z3 := hb.frozen 3
            have z4 := hb.frozen 4
            have z5 := hb.frozen 5
            have hF0 : Frm (Own S w) w wr := HF1.out.trans (hF.out.mono (fun q hq => by
              rcases hq with e | e
              · rw [e]; exact .inl H.out.sm
              · exact .inr (Nat.le_trans HF1.out.size e)))
            obtain ⟨mx, hmxx⟩ : ∃ mx, mx = max F.en (off + b.length) := ⟨_, rfl⟩
            have hfin : ∀ F' : Rf, F' = (⟨F.mx, es, F.a, if b = [] ∧ f = false then F.en else max F.en (off + b.length), if f = true then off + b.length else F.fin, F.known || f, F.gone⟩ : Rf) → ∀ w', Blk w' p 48 (F'.cells m) → Frm (fun k => k = p) wr w' →
                RAddR S w p m F off b f (.returned (.int .i64 0)) w' := fun F' hF' w' hb' hFF => by
              subst hF'
              refine ⟨by rw [HE.out]; rfl, ?_, hF0.trans (hFF.mono (fun k hk => by rw [hk]; exact .inl H.out.sq))⟩
              unfold Rf.add'
              rw [if_pos ⟨HE.out, HD.out⟩, ← hes]
              exact hrf.out.head hb' rfl hFF
            rw [HQ.out] at hfin
            have hb1 : ∀ v : Nat, v = mx → Blk (wr.setCell ⟨p, 3, none⟩ (.int .u64 v)) p 48 #[.int .u64 F.mx, .map (some m), .int .u64 F.a, .int .u64 mx, .int .u64 F.fin, .bool F.known, .bool F.gone] ∧ Frm (fun k => k = p) wr (wr.setCell ⟨p, 3, none⟩ (.int .u64 v)) := fun v hv => by
              subst hv
              exact ⟨hb.set_ 3 _, (Frm.refl (fun k => k = p) wr).setCell (p := ⟨p, 3, none⟩) rfl _⟩
            have hb2 : ∀ (w' : World) (t : Nat), Blk w' p 48 #[.int .u64 F.mx, .map (some m), .int .u64 F.a, .int .u64 t, .int .u64 F.fin, .bool F.known, .bool F.gone] → Frm (fun k => k = p) wr w' →
                Blk ((w'.setCell ⟨p, 4, none⟩ (.int .u64 st)).setCell ⟨p, 5, none⟩ (.bool true)) p 48 #[.int .u64 F.mx, .map (some m), .int .u64 F.a, .int .u64 t, .int .u64 st, .bool true, .bool F.gone] ∧ Frm (fun k => k = p) wr ((w'.setCell ⟨p, 4, none⟩ (.int .u64 st)).setCell ⟨p, 5, none⟩ (.bool true)) := fun w' t h1 h2 =>
              ⟨(h1.set_ 4 _).set_ 5 _, (h2.setCell (p := ⟨p, 4, none⟩) rfl _).setCell (p := ⟨p, 5, none⟩) rfl _⟩
            have hmax : max (F.en : Int) (st : Int) = (mx : Int) := by have := HSE.out; omega
            have HMX := Lib.hid hmxx
            clear hmxx hrl2 hrl hrf hF
            have HB := Lib.hid hb
            have HFIN := Lib.hid hfin
            have HB1 := Lib.hid hb1
            have HB2 := Lib.hid hb2
            have HF0 := Lib.hid hF0
            have HES := Lib.hid hes
            clear hb hfin hb1 hb2 hF0 hes
            cases f with
            | false =>
              by_cases hbn : b = []
              · have hfin2 := HFIN.out ⟨F.mx, es, F.a, F.en, F.fin, F.known, F.gone⟩ (by simp [hbn]) wr HB.out (Frm.refl _ _)
                have hbl : ¬ 0 < b.length := by rw [hbn]; simp
                have HFIN2 := Lib.hid hfin2
                have HBN := Lib.hid hbn
                clear hfin2 hbn
                go_wp2
                exact HFIN2.out
              · have hbl := List.length_pos_iff.2 hbn
                have hfin2 := fun w' => HFIN.out ⟨F.mx, es, F.a, mx, F.fin, F.known, F.gone⟩ (by rw [HMX.out]; simp [hbn]) w'
                have HFIN2 := Lib.hid hfin2
                clear hfin2
                clear hbn
                go_wp2
                exact HFIN2.out _ (HB1.out mx rfl).1 (HB1.out mx rfl).2
            | true =>
              have hfin2 := fun w' => HFIN.out ⟨F.mx, es, F.a, mx, st, true, F.gone⟩ (by rw [HMX.out, HSE.out]; simp) w'
              have hb3 := HB2.out _ _ (HB1.out mx rfl).1 (HB1.out mx rfl).2
              have HFIN2 := Lib.hid hfin2
              have HB3 := Lib.hid hb3
              clear hfin2 hb3
              by_cases hbn : b = []
              · have hbl : ¬ 0 < b.length := by rw [hbn]; simp
                have HBN := Lib.hid hbn
                clear hbn
                go_wp2
                exact HFIN2.out _ HB3.out.1 HB3.out.2
              · have hbl := List.length_pos_iff.2 hbn
                clear hbn
                go_wp2
                exact HFIN2.out _ HB3.out.1 HB3.out.2
  · have he2 : ((F.adds off b f : Nat) : Int) ≠ 0 := by omega
    have he3 : (((F.adds off b f : Nat) : Int) == 0) = false := by rw [beq_eq_false_iff_ne]; exact he2
    rw [HADD.out] at he2 he3
    go_enter Try.func20, Try.ntmps20
    go_upto_region 4 with (go_at_call 26; refine (HCK.out _).mono ?_; rintro e w1 ⟨rfl, hw1⟩; rw [hw1]; clear hw1)
    go_wp2
    rw [← HQ.out]
    refine ⟨by rw [HADD.out]; rfl, ?_, Frm.refl _ _⟩
    unfold Rf.add'
    rw [if_neg (fun c => he c.1)]
    exact H.out
end Go.Proofs.Ytljleaomlooiaaa.M
