/- QencBlocked: the walk. No condition. -/
import Derived.BigQuiet
import Derived.IntWalk
import Derived.Deep.CutBlock
import Derived.Deep.LoopGhost
import Derived.Below
import Derived.Test.YtdgggjeiflllhaaNx
namespace Go.Proofs.Ytdgggjeiflllhaa.M
open Go.ChangeShapes Go.WideShapes Go.ChangeAt Go.RowKit

theorem lsum_in {l : List Fld} {f : Fld} (h : f ∈ l) : f.1.length + f.2.length ≤ lsum l := by
  induction l with
  | nil => cases h
  | cons g r ih =>
    have e : lsum (g :: r) = (g.1.length + g.2.length) + lsum r := by simp [lsum]
    rw [e]
    rcases List.mem_cons.1 h with rfl | h
    · omega
    · have := ih h; omega
theorem light_in {l : List Fld} (h : light l = true) : ∀ f ∈ l, f.1.length + f.2.length ≤ 100000 := fun f hf => by
  have h1 := lsum_in hf
  have h2 := of_decide_eq_true h
  omega
theorem QNt.good {w0 w : World} {X : Nat → Prop} {pe g bm : Nat} {E : Qn} (h : QNt w0 w X pe g bm E) : E.t.Ok ∧ E.t.cap ≤ 4096 := by
  obtain ⟨⟨S, Ar, cr, L, h1⟩, h2, h3⟩ := h
  exact ⟨h1.ok, h1.cap⟩
theorem enc_n (E : Qn) (s : Nat) (l : List Fld) (hok : E.t.Ok) (hc : E.t.cap ≤ 4096) : (E.enc s l).2.t.n ≤ E.t.n + l.length := by
  have h := allN_inv (E := E) (F := fun _ => True) (E.free s) hc l E.wq 0 (wq_inv E hok _) (fun _ _ => trivial)
  have := h.tn
  show (allN E (E.free s) E.wq l).t.n ≤ _
  omega
theorem enc_ne (E : Qn) (s : Nat) (l : List Fld) : (E.enc s l).1.2 ≠ [] := fun e => by
  have h := (prefQ_le (allN E (E.free s) E.wq l).count (allN E (E.free s) E.wq l).count E.t.cap).2
  exact h (List.append_eq_nil_iff.1 e).1
set_option maxRecDepth 100000 in
set_option maxHeartbeats 4000000 in
theorem blocked_walk (ib : Int) (A1 : Option Addr) (n1 c1 : Nat) (L : List (Sl Fld)) (W : World) (hv : (Lit.int .u8 ib).wf = true)
    (h1 : AIn W Sl.cells (fun s => AIn W fcells FldOk s.A s.l.length s.c s.l) A1 n1 c1 L) :
    Calls Try.prog 4 #[.int .u8 ib, .slice A1 n1 c1] W fun e w' => e = .returned (.bool true) ∧ Below W.heap.size W w' := by
  obtain ⟨hn1, hR1, hcap1, _, hok1⟩ := h1
  subst hn1
  obtain ⟨a0, a1⟩ := bounds_u8 hv
  obtain ⟨a, rfl⟩ := Int.eq_ofNat_of_zero_le a0
  obtain ⟨k, hk⟩ : ∃ k : Nat, (a : Int) % 4 = (k : Int) := ⟨a % 4, by omega⟩
  have hk4 : k < 4 := by omega
  clear hv a0
  have HR1 := Lib.hid hR1
  have HOK1 := Lib.hid hok1
  clear hR1 hok1
  go_enter Try.func4, Try.ntmps4
  go_wp2_with (fail)
  refine (known9_any _).mono ?_
  rintro e w1 ⟨rfl, hF1⟩
  have HF1 := Lib.hid hF1
  clear hF1
  by_cases q1 : 10 < L.length
  · go_wp2
    go_ret
    exact ⟨rfl, HF1.out.below⟩
  go_wp2_with (fail)
  refine (kqn_new 4096 (k : Int) (by omega) (by omega) (by omega) (by omega) W w1 HF1.out).mono ?_
  rintro e w2 ⟨X, pe, g, bm, rfl, hK, _, _⟩
  rw [show Qn.new (lim 4096) (max (k : Int) 0).toNat = Qn.new 4096 k by rw [show (max (k : Int) 0).toNat = k by omega]; rfl] at hK
  have hB0 : BInv (Qn.new 4096 k) 0 k := ⟨rfl, rfl, List.nodup_nil, fun o ho => (by cases ho), Nat.zero_le _⟩
  have HK := Lib.hid hK
  have HB0 := Lib.hid hB0
  clear hK hB0
  clear HF1
  go_wp2_with (fail)
  go_loopg [7, 8] L.length (fun kk v7 v8 wx => ∃ (i d : Nat) (X : Nat → Prop) (E : Qn), v7 = .int .i64 (d : Int) ∧ v8 = .int .i64 (i : Int) ∧ i + kk = L.length ∧ d ≤ E.opn.length ∧ Hid (QNt W wx X pe g bm E) ∧ Hid (BInv E i k) ∧ Hid (E.t.n ≤ 6 * i))
  case atStart => exact ⟨0, 0, X, _, rfl, rfl, by omega, Nat.zero_le _, HK, HB0, Nat.zero_le _⟩
  case round =>
    clear HK HB0
    obtain ⟨i, d, X1, E, rfl, rfl, hi, hd, hQ, hB, hN⟩ := hrel
    rename World => wx
    have hd3 : d ≤ 3 := by have := hB.out.le; omega
    by_cases hlt : i < L.length
    · have hlti : (i : Int) < (L.length : Int) := by omega
      obtain ⟨ga, oa, rfl, hx1W⟩ := sl_get2 HR1.out i hlt
      have hPI := HOK1.out L[i] (List.getElem_mem hlt)
      generalize L[i] = s at *
      obtain ⟨sA, sc, sl⟩ := s
      simp only at hPI hx1W
      obtain ⟨_, hRs, _, _, hoks⟩ := hPI
      rw [fcells_fvs] at hRs
      have hgaW := World.block_lt_of_cell? _ _ hx1W
      have hx1 : ∀ w', Frm (New W) W w' → w'.cell? ⟨ga, oa + i, none⟩ = some (.slice sA sl.length sc) := fun w' f => by
        rw [f.cell (by unfold New; simp only at hgaW ⊢; omega)]; exact hx1W
      have hFW := hQ.out.frm
      have hxw := hx1 wx hFW
      have hgw : ga < wx.heap.size := Nat.lt_of_lt_of_le hgaW hFW.size
      have hRw := hRs.fresh hFW
      have HX1 := Lib.hid hx1
      have HRS := Lib.hid hRs
      have HOKS := Lib.hid hoks
      have HFW := Lib.hid hFW
      have HRW := Lib.hid hRw
      clear hx1 hRs hoks hFW hRw
      clear hx1W
      by_cases q5 : 6 < sl.length
      · go_wp2
        go_ret
        exact ⟨rfl, HFW.out.below⟩
      cases hli : light sl with
      | false =>
        have hL := light_any sl sA sc wx HRW.out HOKS.out (by omega)
        rw [hli] at hL
        have HL := Lib.hid hL
        have HLI := Lib.hid hli
        clear hL hli
        go_wp2_with (go_at_call 13; refine HL.out.mono ?_; rintro e w5 ⟨rfl, hF5⟩)
        go_ret
        exact ⟨rfl, (HFW.out.then_new Up.new hF5).below⟩
      | true =>
        have hL := light_any sl sA sc wx HRW.out HOKS.out (by omega)
        rw [hli] at hL
        have hfl := light_in hli
        have hwi : IntKind.u64.wrap (i : Int) = (i : Int) := IntWalk.u64_in _ (by omega)
        have HL := Lib.hid hL
        have HLI := Lib.hid hli
        have HFL := Lib.hid hfl
        clear hL hli hfl
        go_wp2_with (fail)
        refine HL.out.mono ?_
        rintro e w5 ⟨rfl, hF5⟩
        have hQ5 := hQ.out.fresh hF5
        have hx5 := HX1.out w5 hQ5.frm
        have hg5 : ga < w5.heap.size := Nat.lt_of_lt_of_le hgaW hQ5.frm.size
        have hR5 := HRS.out.fresh hQ5.frm
        obtain ⟨hok5, hcp5⟩ := hQ5.good
        have hen := kqn_enc hQ5 i sl sA sc hR5 (fun b hb hne e => by
          obtain ⟨gg, off, q, hlt⟩ := HRS.out.lt (by
            cases sl with
            | nil => exact absurd rfl hne
            | cons x r => simp [fvs])
          rw [q] at hb
          have hgb : gg = b := by simpa using hb
          subst hgb
          have := hQ5.low _ e
          omega) (by omega) HFL.out (by have := hN.out; omega) (by have := hB.out.le; omega)
        have hen2 := enc_n E i sl hok5 hcp5
        have hene := enc_ne E i sl
        obtain ⟨hst1, hst2⟩ := hB.out.step sl
        have hhd := enc_head E i sl
        generalize (allN E (E.free i) E.wq sl).count = ct at *
        generalize E.enc i sl = R at *
        obtain ⟨⟨ins, b⟩, E2⟩ := R
        simp only at hen2 hene hst1 hst2 hhd
        have hN2 : E2.t.n ≤ 6 * (i + 1) := by have := hN.out; omega
        clear hxw hgw hF5 hok5 hcp5
        have HQ5 := Lib.hid hQ5
        have HR5 := Lib.hid hR5
        have HEN := Lib.hid hen
        have HEN2 := Lib.hid hen2
        have HST1 := Lib.hid hst1
        have HN2 := Lib.hid hN2
        have HHD := Lib.hid hhd
        clear hQ5 hR5 hen hen2 hst1 hN2 hhd
        go_wp2_with (fail)
        refine HEN.out.mono ?_
        rintro e w6 ⟨X6, A3, c3, A4, c4, hK6, rfl, _, _, _, hA4, _, _, _, _, _⟩
        replace hA4 := (hA4 hene).rd
        obtain ⟨gb, ob, rfl, hb0⟩ := hA4.at_ (k := 0) (by rw [bvs_length]; exact List.length_pos_iff.2 hene)
        have hb1 := head_bv b hene
        rw [List.getElem?_eq_getElem (by rw [bvs_length]; exact List.length_pos_iff.2 hene)] at hb1
        rw [Option.some.inj hb1, Nat.add_zero] at hb0
        have hgb := World.block_lt_of_cell? _ _ hb0
        simp only at hgb
        have hbl : 0 < b.length := List.length_pos_iff.2 hene
        have hbli : (0 : Int) < (b.length : Int) := by omega
        have hbln : ¬ (b.length : Int) = 0 := by omega
        obtain ⟨q, hq⟩ : ∃ q, q = (b.headD 0).toNat := ⟨_, rfl⟩
        rw [← hq] at hb0
        clear hb1 hA4 hx5 hg5
        simp only at hK6
        have HK6 := Lib.hid hK6
        have HQ := Lib.hid hq
        clear hK6 hq
        by_cases hq0 : q = 0
        · subst hq0
          have hd2 : d ≤ E2.opn.length := by rw [hst2]; omega
          clear hst2
          go_wp2
          go_roundg (gk - 1)
          case measure => omega
          case rel => exact ⟨i + 1, d, X6, E2, rfl, by rw [Int.natCast_add]; rfl, by omega, hd2, HK6, HST1, HN2⟩
        · have hq0i : ¬ (q : Int) = 0 := by omega
          have hct : 0 < ct := by
            rcases Nat.eq_zero_or_pos ct with e | e
            · obtain ⟨r, hr⟩ := HHD.out e
              exfalso
              apply hq0
              rw [HQ.out, hr]
              rfl
            · exact e
          have hd2 : d + 1 ≤ E2.opn.length := by rw [hst2, if_pos hct]; omega
          clear hst2
          go_wp2
          go_roundg (gk - 1)
          case measure => omega
          case rel => exact ⟨i + 1, d + 1, X6, E2, by rw [Int.natCast_add]; rfl, by rw [Int.natCast_add]; rfl, by omega, hd2, HK6, HST1, HN2⟩
    · have hlti : ¬ (i : Int) < (L.length : Int) := by omega
      have hdk : (d : Int) ≤ (k : Int) := by have := hB.out.le; omega
      have hkn := kqn_known hQ.out
      rw [hB.out.known] at hkn
      have HKN := Lib.hid hkn
      clear hkn
      go_wp2_with (fail)
      refine HKN.out.mono ?_
      rintro e w9 ⟨rfl, hw9⟩
      rw [hw9]
      clear hw9 w9
      go_wp2
      go_ret
      exact ⟨rfl, hQ.out.frm.below⟩
end Go.Proofs.Ytdgggjeiflllhaa.M
