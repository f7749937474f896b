/- reasm.Add: what it returns. Fewer than 2^40 bytes. -/
import Derived.BigQuiet
import Derived.Deep.CutBlock
import Derived.Lib.Hide
import Derived.IntWalk
import Derived.Deep.QuietTactic
import Derived.Test.YtljleaomlooiaaaRla
import Derived.Test.YtljleaomlooiaaaSrt5
namespace Go.Proofs.Ytljleaomlooiaaa.M
open Go.ChangeShapes Go.WideShapes Go.ChangeAt Go.RowKit

theorem RbAt.head {S : Nat → Prop} {w w' : World} {p c : Nat} {B B' : Bf} {A : Option Addr} {pv : List Pv} (h : RbAt S w p B A c pv) (hb : Blk w' p 52 (B'.cells A pv.length c)) (hl : B'.l = B.l) (F : Frm (fun k => k = p) w w') : RbAt S w' p B' A c pv :=
  ⟨hb, h.row.keep F (fun k hk e => (h.row.inM k hk).2 e), by rw [hl]; exact h.pcs.keep F (fun k hk e => hk.2.1 e), h.sp, fun k hk => Nat.lt_of_lt_of_le (h.low k hk) F.size⟩
/-- the end, as a number of 64 bits -/
def stp (off : Nat) (b : Bytes) : Nat := (off + b.length) % 18446744073709551616
def Bf.adds (B : Bf) (off : Nat) (b : Bytes) (f : Bool) : Nat := B.chk (stp off b) (decide (off ≤ stp off b)) f
/-- what Add makes of a buffer -/
def Bf.AddTo (B : Bf) (off : Nat) (b : Bytes) (f : Bool) (B' : Bf) : Prop :=
  if B.adds off b f = 0 ∧ B.over = false then ∃ l', l'.Perm (B.l ++ news off b (off + b.length) B.l (max off B.a)) ∧ l'.Pairwise (fun x y => x.off ≤ y.off) ∧
    B' = ⟨l', B.a, if b = [] ∧ f = false then B.top else max B.top (off + b.length), B.win, if f = true then off + b.length else B.fin, B.known || f, B.reset⟩
  else B' = B
theorem chk_zero {B : Bf} {stop : Nat} {fits f : Bool} (h : B.chk stop fits f = 0) : fits = true ∧ stop ≤ B.win ∧ (B.known = true → stop ≤ B.fin ∧ (f = true → stop = B.fin)) ∧ (f = true → B.top ≤ stop) := by
  unfold Bf.chk at h
  split at h
  · cases h
  · rename_i h1
    split at h
    · cases h
    · rename_i h2
      split at h
      · cases h
      · rename_i h3
        refine ⟨by cases fits with | true => rfl | false => exact absurd (.inl rfl) h1, Nat.le_of_not_lt (fun c => h1 (.inr c)), fun hk => ⟨Nat.le_of_not_lt (fun c => h2 ⟨hk, .inl c⟩), fun hf => ?_⟩, fun hf => Nat.le_of_not_lt (fun c => h3 ⟨hf, c⟩)⟩
        by_cases e : stop = B.fin
        · exact e
        · exact absurd ⟨hk, .inr ⟨hf, e⟩⟩ h2
theorem over_not {B : Bf} (h : B.over = false) : B.reset = false ∧ (B.known = true → B.a ≠ B.fin) := by
  unfold Bf.over at h
  rw [Bool.or_eq_false_iff] at h
  refine ⟨h.1, fun hk e => ?_⟩
  rw [hk, e] at h
  simp at h
theorem stp_eq {B : Bf} {off : Nat} {b : Bytes} {f : Bool} (h : B.adds off b f = 0) (ho : off < 18446744073709551616) (hl : b.length < 18446744073709551616) : stp off b = off + b.length := by
  have h1 := (chk_zero h).1
  have h2 := of_decide_eq_true h1
  unfold stp at h2 ⊢
  omega
theorem AddTo.ok {B B' : Bf} {off : Nat} {b : Bytes} {f : Bool} (ho : off < 18446744073709551616) (hl : b.length < 18446744073709551616) (h : B.Ok) (ha : B.AddTo off b f B') : B'.Ok := by
  unfold Bf.AddTo at ha
  split at ha
  · rename_i hc
    obtain ⟨h1, h2⟩ := hc
    have hs := stp_eq h1 ho hl
    obtain ⟨_, c2, c3, c4⟩ := chk_zero h1
    rw [hs] at c2 c3 c4
    obtain ⟨o1, o2⟩ := over_not h2
    obtain ⟨l', hp, hpw, rfl⟩ := ha
    have hsrt := lay_srt h.srt hp hpw
    have hst := news_stop off b B.l B.a (max off B.a) h.srt (by omega)
    refine ⟨hsrt, fun P hP => ?_, ?_, ?_, h.win, fun hk => ?_, fun hr => ?_⟩
    · simp only
      rcases List.mem_append.1 (hp.mem_iff.1 hP) with hP | hP
      · have := h.stop P hP
        split <;> omega
      · have h3 := hst P hP
        split
        · rename_i hb
          have h4 := news_hl (b := b) (off := off) h.srt (a := max off B.a) (by omega)
          have h5 := hl_len (l := news off b (off + b.length) B.l (max off B.a)) (fun Q hQ => ((news_srt off b B.l B.a _ h.srt (by omega)).low Q hQ).2)
          rw [hb.1] at h4 h5 hP
          have h6 := List.length_pos_iff.2 (List.ne_nil_of_mem hP)
          simp only [List.length_nil] at h4 h5 h6
          omega
        · omega
    · simp only
      have := h.at_
      split <;> omega
    · simp only
      have := h.top
      split <;> omega
    · simp only at hk ⊢
      cases f with
      | true =>
        have := c4 rfl
        simp
        omega
      | false =>
        have hk' : B.known = true := by simpa using hk
        have e1 := h.fin hk'
        have e2 := (c3 hk').1
        simp only [Bool.false_eq_true, if_false]
        split <;> omega
    · simp only at hr
      rw [o1] at hr
      cases hr
  · rw [ha]; exact h
/-- what Add leaves -/
def AddR (S : Nat → Prop) (w : World) (p : Nat) (B : Bf) (off : Nat) (b : Bytes) (f : Bool) (e : Ending) (w' : World) : Prop :=
  e = .returned (.int .i64 (B.adds off b f : Nat)) ∧ ∃ S' A' c' pv' B', RbAt S' w' p B' A' c' pv' ∧ B.AddTo off b f B' ∧ Frm (Own S w) w w' ∧ ∀ k, S' k → Own S w k

set_option maxRecDepth 100000 in
set_option maxHeartbeats 2000000 in
theorem add_any {S : Nat → Prop} {p c cb : Nat} {B : Bf} {A Ab : Option Addr} {pv : List Pv} (off : Nat) (b : Bytes) (f : Bool) (w : World) (h : RbAt S w p B A c pv) (hok : B.Ok) (hx : Ext S w Ab (bvs b)) (hcb : b.length ≤ cb) (hnil : Ab = none → cb = 0)
    (hq : hl B.l + b.length ≤ 1099511627776) (ho : off < 18446744073709551616) :
    Calls Try.prog 9 #[.pointer (some ⟨p, 0, none⟩), .int .u64 off, .slice Ab b.length cb, .bool f] w (AddR S w p B off b f) := by
  generalize hQ : AddR S w p B off b f = Q
  have HQ := Lib.hid hQ
  clear hQ
  have hwr : IntKind.u64.wrap ((off : Int) + (b.length : Int)) = ((stp off b : Nat) : Int) := by
    show ((off : Int) + (b.length : Int)) % 18446744073709551616 = _
    unfold stp
    omega
  have hck := fun fits => check_any B (stp off b) fits f p A pv.length c w h.blk
  obtain ⟨st, hst⟩ : ∃ st, st = stp off b := ⟨_, rfl⟩
  rw [← hst] at hwr hck
  have HADD : Hid (B.adds off b f = B.chk st (decide (off ≤ st)) f) := by show _ = _; rw [hst]; rfl
  have hs64 : st < 18446744073709551616 := by rw [hst]; exact Nat.mod_lt _ (by omega)
  have hov := over_any B p A pv.length c w h.blk
  have hlb : b.length ≤ 1099511627776 := by omega
  have HCK := Lib.hid hck
  have HST := Lib.hid hst
  have HOV := Lib.hid hov
  have H := Lib.hid h
  have HOK := Lib.hid hok
  have HX := Lib.hid hx
  clear hck hst hov h hok hx
  by_cases he : B.adds off b f = 0
  · have he0 := he
    rw [HADD.out] at he0
    have HE := Lib.hid he
    have hse : st = off + b.length := by
      rw [HST.out]
      have hcap := hcb
      have := hlb
      exact stp_eq he ho (by omega)
    have hzr := chk_zero he0
    rw [hse] at hzr
    clear he
    have HSE := Lib.hid hse
    clear hse
    cases hov : B.over with
    | true =>
      rw [hov] at HOV
      have HO2 := Lib.hid hov
      clear hov hzr
      go_enter Try.func9, Try.ntmps9
      go_upto_region 4 with (first | (go_at_call 23; refine (HCK.out _).mono ?_; rintro e w1 ⟨rfl, hw1⟩; rw [hw1]; clear hw1) | (go_at_call 24; refine HOV.out.mono ?_; rintro e w1 ⟨rfl, q, rfl⟩))
      go_wp2
      rw [← HQ.out]
      refine ⟨by rw [HE.out]; rfl, S, A, c, pv, B, H.out.fresh ((Frm.refl _ w).drewN q), ?_, (Frm.refl _ w).drewN q, fun k hk => .inl hk⟩
      unfold Bf.AddTo
      rw [if_neg (fun c => by rw [HO2.out] at c; cases c.2)]
    | false =>
      rw [hov] at HOV
      have HO2 := Lib.hid hov
      clear hov
      have HZR := Lib.hid hzr
      clear hzr
      have hdrw : ∀ q, Frm (New w) w (w.drewN q) := fun q => (Frm.refl (New w) w).drewN q
      have hm1 : ∀ P ∈ B.l, P.stop ≤ 4611686018427387903 := fun P hP => Nat.le_trans (HOK.out.stop P hP) (Nat.le_trans HOK.out.top HOK.out.win)
      have hm2 : B.a ≤ 4611686018427387903 := Nat.le_trans HOK.out.at_ (Nat.le_trans HOK.out.top HOK.out.win)
      have hm3 : off + b.length ≤ 4611686018427387903 := Nat.le_trans HZR.out.2.1 HOK.out.win
      have hlay := fun q => lay_any sort_law off b (w.drewN q) (H.out.fresh (hdrw q)) HOK.out.srt hm1 hm2 hm3 (HX.out.fresh (hdrw q)) hcb hnil hq
      clear hm1 hm2 hm3 hdrw
      have HLAY := Lib.hid hlay
      clear hlay
      go_enter Try.func9, Try.ntmps9
      go_upto_region 6 with (first | (go_at_call 23; refine (HCK.out _).mono ?_; rintro e w1 ⟨rfl, hw1⟩; rw [hw1]; clear hw1) | (go_at_call 24; refine HOV.out.mono ?_; rintro e w1 ⟨rfl, q, rfl⟩) | (go_at_call 25; refine (HLAY.out q).mono ?_; rintro e w2 ⟨rfl, S2, A2, c2, pv2, l2, hr2, hp2, ho2, hF2, hS2⟩))
      have hb := hr2.blk
      unfold Bf.cells at hb
      have hd2 := hb.cell 2
      have hd4 := hb.cell 4
      have hd5 := hb.cell 5
      simp only [List.getElem?_toArray, List.getElem?_cons_zero, List.getElem?_cons_succ] at hd2 hd4 hd5
      have hp := hb.lt
      have z2 := hb.frozen 2
      have z4 := hb.frozen 4
      have z5 := hb.frozen 5
      have hF : Frm (Own S w) w w2 := (((Frm.refl (Own S w) w).drewN q).trans hF2)
      obtain ⟨mx, hmx⟩ : ∃ mx, mx = max B.top (off + b.length) := ⟨_, rfl⟩
      have hfin : ∀ B' : Bf, B' = (⟨l2, B.a, if b = [] ∧ f = false then B.top else max B.top (off + b.length), B.win, if f = true then off + b.length else B.fin, B.known || f, B.reset⟩ : Bf) → ∀ w', Blk w' p 52 (B'.cells A2 pv2.length c2) → Frm (fun k => k = p) w2 w' →
          AddR S w p B off b f (.returned (.int .i64 0)) w' := fun B' hB' w' hb' hF' => by
        subst hB'
        refine ⟨by rw [HE.out]; rfl, S2, A2, c2, pv2, _, hr2.head hb' rfl hF', ?_, hF.trans (hF'.mono (fun k hk => by rw [hk]; exact .inl H.out.sp)), fun k hk => hS2 k hk⟩
        unfold Bf.AddTo
        rw [if_pos ⟨HE.out, HO2.out⟩]
        exact ⟨l2, hp2, ho2, rfl⟩
      rw [HQ.out] at hfin
      have hb1 : ∀ v : Nat, v = mx → Blk (w2.setCell ⟨p, 2, none⟩ (.int .u64 v)) p 52 #[.slice A2 pv2.length c2, .int .u64 B.a, .int .u64 mx, .int .u64 B.win, .int .u64 B.fin, .bool B.known, .bool B.reset] ∧ Frm (fun k => k = p) w2 (w2.setCell ⟨p, 2, none⟩ (.int .u64 v)) := fun v hv => by
        subst hv
        exact ⟨hb.set_ 2 _, (Frm.refl (fun k => k = p) w2).setCell (p := ⟨p, 2, none⟩) rfl _⟩
      have hb2 : ∀ (w' : World) (t : Nat), Blk w' p 52 #[.slice A2 pv2.length c2, .int .u64 B.a, .int .u64 t, .int .u64 B.win, .int .u64 B.fin, .bool B.known, .bool B.reset] → Frm (fun k => k = p) w2 w' →
          Blk ((w'.setCell ⟨p, 4, none⟩ (.int .u64 st)).setCell ⟨p, 5, none⟩ (.bool true)) p 52 #[.slice A2 pv2.length c2, .int .u64 B.a, .int .u64 t, .int .u64 B.win, .int .u64 st, .bool true, .bool B.reset] ∧ Frm (fun k => k = p) w2 ((w'.setCell ⟨p, 4, none⟩ (.int .u64 st)).setCell ⟨p, 5, none⟩ (.bool true)) := fun w' t h1 h2 =>
        ⟨(h1.set_ 4 _).set_ 5 _, (h2.setCell (p := ⟨p, 4, none⟩) rfl _).setCell (p := ⟨p, 5, none⟩) rfl _⟩
      have HMX := Lib.hid hmx
      clear hmx hr2 hp2 ho2 hF2 hS2 hF he0
      have HB := Lib.hid hb
      have HFIN := Lib.hid hfin
      have HB1 := Lib.hid hb1
      have HB2 := Lib.hid hb2
      clear hb hfin hb1 hb2
      have hmax : max (B.top : Int) (st : Int) = (mx : Int) := by have := HMX.out; have := HSE.out; omega
      cases f with
      | false =>
        by_cases hbn : b = []
        · have hfin2 := HFIN.out ⟨l2, B.a, B.top, B.win, B.fin, B.known, B.reset⟩ (by simp [hbn]) w2 HB.out (Frm.refl _ _)
          have hbl : ¬ 0 < b.length := by rw [hbn]; simp
          have HFIN2 := Lib.hid hfin2
          have HBN := Lib.hid hbn
          clear hfin2 hbn
          go_wp2
          exact HFIN2.out
        · have hbl := List.length_pos_iff.2 hbn
          have hfin2 := fun w' => HFIN.out ⟨l2, B.a, mx, B.win, B.fin, B.known, B.reset⟩ (by rw [HMX.out]; simp [hbn]) w'
          have HFIN2 := Lib.hid hfin2
          clear hfin2
          clear hbn
          go_wp2
          exact HFIN2.out _ (HB1.out mx rfl).1 (HB1.out mx rfl).2
      | true =>
        have hfin2 := fun w' => HFIN.out ⟨l2, B.a, mx, B.win, st, true, B.reset⟩ (by rw [HMX.out, HSE.out]; simp) w'
        have hb3 := HB2.out _ _ (HB1.out mx rfl).1 (HB1.out mx rfl).2
        have HFIN2 := Lib.hid hfin2
        have HB3 := Lib.hid hb3
        clear hfin2 hb3
        by_cases hbn : b = []
        · have hbl : ¬ 0 < b.length := by rw [hbn]; simp
          have HBN := Lib.hid hbn
          clear hbn
          go_wp2
          exact HFIN2.out _ HB3.out.1 HB3.out.2
        · have hbl := List.length_pos_iff.2 hbn
          clear hbn
          go_wp2
          exact HFIN2.out _ HB3.out.1 HB3.out.2
  · have he2 : ((B.adds off b f : Nat) : Int) ≠ 0 := by omega
    have he3 : (((B.adds off b f : Nat) : Int) == 0) = false := by rw [beq_eq_false_iff_ne]; exact he2
    rw [HADD.out] at he2 he3
    go_enter Try.func9, Try.ntmps9
    go_upto_region 4 with (go_at_call 23; refine (HCK.out _).mono ?_; rintro e w1 ⟨rfl, hw1⟩; rw [hw1]; clear hw1)
    go_wp2
    rw [← HQ.out]
    refine ⟨by rw [HADD.out]; rfl, S, A, c, pv, B, H.out, ?_, Frm.refl _ _, fun k hk => .inl hk⟩
    unfold Bf.AddTo
    rw [if_neg (fun c => he c.1)]
end Go.Proofs.Ytljleaomlooiaaa.M
