/- reasm.Read: what it returns. Fewer than 2^40 bytes. -/
import Derived.BigQuiet
import Derived.Deep.CutBlock
import Derived.Lib.Hide
import Derived.IntWalk
import Derived.Deep.QuietTactic
import Derived.Test.YtljleaomlooiaaaRea
namespace Go.Proofs.Ytljleaomlooiaaa.M
open Go.ChangeShapes Go.WideShapes Go.ChangeAt Go.RowKit

/-- how long a slice is -/
def lenV : Value → Nat
  | .slice _ n _ => n
  | _ => 0
/-- what Read leaves -/
def ReadR (S : Nat → Prop) (w : World) (p : Nat) (B : Bf) (n : Int) (e : Ending) (w' : World) : Prop :=
  ∃ Ao co A' c' pv', e = .returned (.slice Ao (B.many n) co) ∧ App (New w) w' 5 1 Ao (B.many n) co (bvs ((run B.l B.a).take (B.many n))) ∧ RbAt S w' p (B.reads (B.many n)) A' c' pv' ∧ Frm (Own S w) w w'
theorem run_hl : ∀ (l : List Pc) (a : Nat), (run l a).length ≤ hl l
  | [], a => by simp [run]
  | p :: r, a => by
    rw [run_cons]
    have := run_hl r p.stop
    split
    · rw [List.length_append]
      simp only [hl]
      omega
    · simp

set_option maxRecDepth 100000 in
set_option maxHeartbeats 2000000 in
theorem read_any {S : Nat → Prop} {p c : Nat} {B : Bf} {A : Option Addr} {pv : List Pv} (n : Int) (w : World) (h : RbAt S w p B A c pv) (hok : B.Ok) (hn : -9223372036854775808 ≤ n ∧ n ≤ 9223372036854775807) (hq : hl B.l ≤ 1099511627776) :
    Calls Try.prog 10 #[.pointer (some ⟨p, 0, none⟩), .int .i64 n] w (ReadR S w p B n) := by
  generalize hQ : ReadR S w p B n = Q
  have HQ := Lib.hid hQ
  clear hQ
  obtain ⟨N, hN⟩ : ∃ N, N = B.many n := ⟨_, rfl⟩
  obtain ⟨R, hR⟩ : ∃ R, R = run B.l B.a := ⟨_, rfl⟩
  have hNR : N ≤ R.length ∧ R.length ≤ 1099511627776 := by
    rw [hN, hR]
    refine ⟨Nat.min_le_right _ _, Nat.le_trans (run_hl _ _) hq⟩
  have hNn : N = min n.toNat R.length := by rw [hN, hR]; rfl
  have hlow := h.low
  have hU : Up (New w) w := Up.new
  have hS0 := hok.srt
  have H := Lib.hid h
  have HOK := Lib.hid hok
  have HN := Lib.hid hN
  have HR := Lib.hid hR
  have HNN := Lib.hid hNn
  have HLOW := Lib.hid hlow
  have HU := Lib.hid hU
  have HS0 := Lib.hid hS0
  clear h hok hN hR hNn hlow hU hS0
  go_enter Try.func10, Try.ntmps10
  go_upto_region 2 with (fail)
  go_loopw [5] (fun v5 wr => ∃ (d : Nat) (Ao : Option Addr) (co : Nat) (A' : Option Addr) (c' : Nat) (pv' : List Pv), d ≤ N ∧ v5 = .slice Ao d co ∧ Hid (App (New w) wr 5 1 Ao d co (bvs (R.take d))) ∧ Hid (RbAt S wr p (B.reads d) A' c' pv') ∧ Hid (Frm (Own S w) w wr)) (fun v5 _ => N - lenV v5)
  case atStart =>
    refine ⟨0, none, 0, A, c, pv, Nat.zero_le _, rfl, ?_, ?_, Frm.refl _ _⟩
    · rw [List.take_zero]
      exact App.none_
    · have e : B.reads 0 = B := by
        unfold Bf.reads
        rw [dropB_zero HS0.out]
        rfl
      rw [e]
      exact H
  case round =>
    obtain ⟨d, Ao, co, A', c', pv', hd, rfl, hAo, hrb, hF⟩ := hrel
    obtain ⟨l1, hl1⟩ : ∃ l1, l1 = dropB d B.l := ⟨_, rfl⟩
    obtain ⟨a1, ha1⟩ : ∃ a1, a1 = B.a + d := ⟨_, rfl⟩
    have hB1 : B.reads d = ⟨l1, a1, B.top, B.win, B.fin, B.known, B.reset⟩ := by rw [hl1, ha1]; rfl
    rw [hB1] at hrb
    have hdr : d ≤ (run B.l B.a).length := by rw [← HR.out]; omega
    have hrun : run l1 a1 = R.drop d := by rw [hl1, ha1, run_drop B.l B.a d HS0.out hdr, HR.out]
    have hsrt : Srt a1 l1 := by rw [hl1, ha1]; exact dropB_srt B.l B.a d HS0.out hdr
    have hend : ((∀ P r, l1 = P :: r → P.off ≠ a1) ∨ ¬ (d : Int) < n) → d = N := by
      rintro (e | e)
      · have : run l1 a1 = [] := by
          cases l1 with
          | nil => rfl
          | cons P r => rw [run_cons, if_neg (e P r rfl)]
        rw [this] at hrun
        have h1 := congrArg List.length hrun
        rw [List.length_drop, List.length_nil] at h1
        omega
      · have := HNN.out
        omega
    have hbb := hrb.out.blk
    unfold Bf.cells at hbb
    have hd0 := hbb.cell 0
    have hd1 := hbb.cell 1
    simp only [List.getElem?_toArray, List.getElem?_cons_zero, List.getElem?_cons_succ] at hd0 hd1
    have hp := hbb.lt
    have hpl := hrb.out.pcs.len
    simp only at hpl
    have HRUN := Lib.hid hrun
    have HSRT := Lib.hid hsrt
    have HEND := Lib.hid hend
    have HBB := Lib.hid hbb
    have HL1 := Lib.hid hl1
    have HA1 := Lib.hid ha1
    have HB1 := Lib.hid hB1
    clear hrun hsrt hend hbb hl1 ha1 hB1
    cases hl : l1 with
    | nil =>
      subst hl
      obtain rfl : pv' = [] := List.eq_nil_of_length_eq_zero hpl
      obtain rfl := HEND.out (.inl (fun P r e => by cases e))
      simp only [List.length_nil] at hd0
      clear hpl
      go_upto_region 2 with (fail)
      go_quiet (fail)
      go_wp2
      rw [← HQ.out]
      refine ⟨Ao, co, A', c', [], by rw [← HN.out], by rw [← HN.out, ← HR.out]; exact hAo.out.fresh ((Frm.refl _ wr).drewN _), by rw [← HN.out, HB1.out]; exact hrb.out.fresh ((Frm.refl _ wr).drewN _), hF.out.drewN _⟩
    | cons P r =>
      subst hl
      obtain ⟨v, pvr, rfl⟩ : ∃ v pvr, pv' = v :: pvr := by
        cases pv' with
        | nil => simp at hpl
        | cons v pvr => exact ⟨v, pvr, rfl⟩
      simp only [List.length_cons] at hd0 hpl
      obtain ⟨vo, vA, vn, vc⟩ := v
      have heat := hrb.out.eat rfl 0 (Nat.zero_le _) HBB.out
      obtain ⟨g, oA, rfl, hx0, hx1, hz1, hz2, hgp, hSg, hgl, hcv, hRv, hnv, hz3⟩ := heat
      clear hz1 hz2 hz3
      simp only at hcv hx1 hRv hnv
      clear hpl
      by_cases hne : P.off = a1
      · by_cases hdn : (d : Int) < n
        · subst hne
          obtain ⟨k, hk⟩ : ∃ k, k = min (n.toNat - d) P.b.length := ⟨_, rfl⟩
          have hmi : min (n - (d : Int)) (P.b.length : Int) = (k : Int) := by omega
          have hPn := List.length_pos_iff.2 HSRT.out.2.1
          have hPR : P.b.length ≤ R.length - d := by
            have h1 := congrArg List.length HRUN.out
            rw [run_cons, if_pos rfl, List.length_append, List.length_drop] at h1
            omega
          have hk1 : 1 ≤ k ∧ k ≤ P.b.length := by omega
          have hdk : d + k ≤ N := by have := HNN.out; omega
          have htk : R.take (d + k) = R.take d ++ P.b.take k := by
            have h1 := HRUN.out
            rw [run_cons, if_pos rfl] at h1
            rw [List.take_add, ← h1, List.take_append_of_le_length hk1.2]
          have hwn : IntKind.i64.wrap (n - (d : Int)) = n - (d : Int) := IntWalk.i64_in _ (by omega)
          have hRk := hRv.take k
          rw [show (bvs P.b).take k = bvs (P.b.take k) by simp [bvs, List.map_take]] at hRk
          have hkl : (P.b.take k).length = k := by rw [List.length_take]; omega
          have hcut : ∀ {o : Oper} {a : Act} {x hi : Operand} {A : Option Addr} {n c : Nat} {w : World}, True := fun {_ _ _ _ _ _ _ _} => trivial
          clear hcut
          have HK := Lib.hid hk
          have HTK := Lib.hid htk
          have HKL := Lib.hid hkl
          have HRK := Lib.hid hRk
          clear hk htk hkl hRk
          go_upto_region 2 with (fail)
          go_quiet (fail)
          have hrb2 := hrb.out.fresh ((Frm.refl (New wr) wr).drewN nq)
          have hAo2 := hAo.out.fresh ((Frm.refl (New wr) wr).drewN nq)
          have hF2 := hF.out.drewN nq
          have hRk2 := HRK.out.drewN nq
          have hx0' : (wr.drewN nq).cell? ⟨g, oA, none⟩ = some (.int .u64 P.off) := hx0
          have hx1' : (wr.drewN nq).cell? ⟨g, oA + 1, none⟩ = some (.slice vA P.b.length vc) := hx1
          have hd0' : (wr.drewN nq).cell? ⟨p, 0, none⟩ = some (.slice (some ⟨g, oA, none⟩) (pvr.length + 1) c') := hd0
          have hp' : p < (wr.drewN nq).heap.size := hp
          have hgl' : g < (wr.drewN nq).heap.size := hgl
          have hup : Up (New w) (wr.drewN nq) := HU.out.of hF2.size
          clear hx0 hx1 hd0 hd1 hp hgl HRK hrb hAo hF HBB hRv
          generalize wr.drewN nq = w2 at *
          have HRB2 := Lib.hid hrb2
          have HAO2 := Lib.hid hAo2
          have HF2 := Lib.hid hF2
          have HRK2 := Lib.hid hRk2
          have HUP := Lib.hid hup
          clear hrb2 hAo2 hF2 hRk2 hup
          go_upto_region 5 with (fail)
          go_upto_region 6 with (first
            | (refine wpList_val rfl (.slice vA k vc) (run_toG u8s rfl rfl rfl rfl (by omega)) ?_)
            | (at_builtin; refine wpList_append u8s rfl rfl rfl HAO2.out HUP.out rfl HRK2.out (by rw [bvs_length, HKL.out, Nat.mul_one]) (bvs_one _) (by omega) ?_; intro A6 c6 w6 hA6 hF6 hb6 hW6))
          rw [← bvs_append, ← HTK.out] at hA6
          clear hb6 hW6 hx0' hx1' hd0' hp' hgl' HRK2 HUP HAO2
          have hrb6 := HRB2.out.keep hF6 (fun q hq c => by have := HLOW.out q hq; unfold New at c; omega)
          have hF06 := HF2.out.trans (hF6.mono (fun q hq => (.inr hq : Own S w q)))
          obtain ⟨a2, hax⟩ : ∃ a2, a2 = P.off + k := ⟨_, rfl⟩
          have hsum : (P.off : Int) + (k : Int) = (a2 : Int) := by omega
          have hPt : P.off + P.b.length ≤ 4611686018427387903 := by
            have h1 := dropB_stop d HOK.out.stop P (by rw [← HL1.out]; simp)
            have h2 := HOK.out.top
            have h3 := HOK.out.win
            unfold Pc.stop at h1
            omega
          have heat := (hrb6.fresh ((Frm.refl (New w6) w6).drew)).eat rfl k hk1.2 (hrb6.blk.drew)
          obtain ⟨g2, oA2, hge, hx0, hx1, hz1, hz2, _, _, hgl, _, _, _, hnew⟩ := heat
          injection hge with hge
          injection hge with hg1 hg2
          subst hg1 hg2
          obtain ⟨A2, hA2⟩ : ∃ A2, (if vc = k then vA else vA.map (·.add (k * 1))) = A2 := ⟨_, rfl⟩
          obtain ⟨hr8, hF8⟩ := hnew A2 hA2 a2
          obtain ⟨n2, hn2⟩ : ∃ n2, P.b.length - k = n2 := ⟨_, rfl⟩
          obtain ⟨c2, hc2⟩ : ∃ c2, vc - k = c2 := ⟨_, rfl⟩
          rw [hn2, hc2] at hr8 hF8
          simp only at hx1 hr8
          have hb6 := hrb6.blk
          unfold Bf.cells at hb6
          have hd0 := hb6.cell 0
          have hd1 := hb6.cell 1
          simp only [List.getElem?_toArray, List.getElem?_cons_zero, List.getElem?_cons_succ] at hd0 hd1
          have hp := hb6.lt
          have hzp := hb6.frozen 1
          have hgl6 : g < w6.heap.size := hgl
          have hx06 : w6.cell? ⟨g, oA, none⟩ = some (.int .u64 P.off) := hx0
          have hx16 : w6.cell? ⟨g, oA + 1, none⟩ = some (.slice vA P.b.length vc) := hx1
          have hz16 : w6.frozen? ⟨g, oA, none⟩ = false := hz1
          have hz26 : w6.frozen? ⟨g, oA + 1, none⟩ = false := hz2
          have hb7 := hb6.set_ 1 (.int .u64 a2)
          have hF67 : Frm (fun q => q = p) w6 (w6.setCell ⟨p, 1, none⟩ (.int .u64 a2)) := (Frm.refl (fun q => q = p) w6).setCell (p := ⟨p, 1, none⟩) rfl _
          have hx07 : (w6.setCell ⟨p, 1, none⟩ (.int .u64 a2)).cell? ⟨g, oA, none⟩ = some (.int .u64 P.off) := (hF67.cell (p := ⟨g, oA, none⟩) hgp).trans hx06
          have hx17 : (w6.setCell ⟨p, 1, none⟩ (.int .u64 a2)).cell? ⟨g, oA + 1, none⟩ = some (.slice vA P.b.length vc) := (hF67.cell (p := ⟨g, oA + 1, none⟩) hgp).trans hx16
          have hz17 : (w6.setCell ⟨p, 1, none⟩ (.int .u64 a2)).frozen? ⟨g, oA, none⟩ = false := (hF67.frozen (p := ⟨g, oA, none⟩) hgp).trans hz16
          have hz27 : (w6.setCell ⟨p, 1, none⟩ (.int .u64 a2)).frozen? ⟨g, oA + 1, none⟩ = false := (hF67.frozen (p := ⟨g, oA + 1, none⟩) hgp).trans hz26
          have hd17 : (w6.setCell ⟨p, 1, none⟩ (.int .u64 a2)).cell? ⟨p, 1, none⟩ = some (.int .u64 a2) := hb7.cell 1
          have hgl7 : g < (w6.setCell ⟨p, 1, none⟩ (.int .u64 a2)).heap.size := Nat.lt_of_lt_of_le hgl6 hF67.size
          clear hx0 hx1 hz1 hz2 hgl hnew hrb6 hb7 hF67
          have hF08 := (hF06.drew).trans (hF8.mono (fun q hq => (.inl hq : Own S w q)))
          have hA8 := (hA6.fresh ((Frm.refl (New w6) w6).drew)).keep hF8 (fun q hq c => by have h1 := hA6.inM q hq; have h2 := HLOW.out q c; unfold New at h1; omega)
          clear hF8 hF6 hA6 hF06
          have HAX := Lib.hid hax
          have HR8 := Lib.hid hr8
          have HF08 := Lib.hid hF08
          have HA8 := Lib.hid hA8
          have HA2 := Lib.hid hA2
          have HN2 := Lib.hid hn2
          have HC2 := Lib.hid hc2
          have HB6 := Lib.hid hb6
          have HX07 := Lib.hid hx07
          have HX17 := Lib.hid hx17
          have HZ17 := Lib.hid hz17
          have HZ27 := Lib.hid hz27
          have HD17 := Lib.hid hd17
          have HGL7 := Lib.hid hgl7
          clear hax hr8 hF08 hA8 hA2 hn2 hc2 hb6 hx07 hx17 hz17 hz27 hd17 hgl7
          go_upto_region 7 with (fail)
          clear hx06 hx16 hz16 hz26 hd0 hd1 hp hzp hgl6 HB6
          have hw78 : (w6.drew.setCell ⟨p, 1, none⟩ (.int .u64 a2)) = (w6.setCell ⟨p, 1, none⟩ (.int .u64 a2)).drew := rfl
          rw [hw78] at HR8 HF08 HA8
          clear hw78
          generalize w6.setCell ⟨p, 1, none⟩ (.int .u64 a2) = w7 at *
          have hx0 := HX07.out
          have hx1 := HX17.out
          have hd1 := HD17.out
          have hz0 := HZ17.out
          have hz1 := HZ27.out
          have hgl := HGL7.out
          have hS0 : w7.drew.cell? ⟨p, 1, none⟩ = some (.int .u64 a2) ∧ w7.drew.cell? ⟨g, oA + 1, none⟩ = some (.slice vA P.b.length vc) := ⟨hd1, hx1⟩
          refine wp_region_til (by kernel_rfl) (fun w' => w'.cell? ⟨p, 1, none⟩ = some (.int .u64 a2) ∧ w'.cell? ⟨g, oA + 1, none⟩ = some (.slice vA P.b.length vc)) 17 ?_
          refine wpAnyT_take (i := 0) (v := ?_) (d := some 66) rfl (by rfl) (by kernel_rfl) (fun _ _ _ h => h) (by rfl) hS0 (fun w hSw => ?_) ?_
          rotate_left
          · (try dsimp only at hSw); go_simp; first | done | (with_reducible rfl)
          simp only [Act.put, List.setIfInBounds_toArray, List.set_cons_zero, List.set_cons_succ]
          refine wpAnyT_take (i := 1) (v := ?_) (d := some 67) rfl (by rfl) (by kernel_rfl) (fun _ _ _ h => h) (by rfl) hS0 (fun w hSw => ?_) ?_
          rotate_left
          · (try dsimp only at hSw); go_simp; first | done | (with_reducible rfl)
          simp only [Act.put, List.setIfInBounds_toArray, List.set_cons_zero, List.set_cons_succ]
          refine wpAnyT_take (i := 2) (v := ?_) (d := some 68) rfl (by rfl) (by kernel_rfl) (fun _ _ _ h => h) (by rfl) hS0 (fun w hSw => ?_) ?_
          rotate_left
          · (try dsimp only at hSw); go_simp; first | done | (with_reducible rfl)
          simp only [Act.put, List.setIfInBounds_toArray, List.set_cons_zero, List.set_cons_succ]
          refine wpAnyT_take (i := 3) (v := ?_) (d := some 69) rfl (by rfl) (by kernel_rfl) (fun _ _ _ h => h) (by rfl) hS0 (fun w hSw => ?_) ?_
          rotate_left
          · (try dsimp only at hSw); go_simp; first | done | (with_reducible rfl)
          simp only [Act.put, List.setIfInBounds_toArray, List.set_cons_zero, List.set_cons_succ]
          refine wpAnyT_take (i := 4) (v := ?_) (d := some 70) rfl (by rfl) (by kernel_rfl) (fun _ _ _ h => h) (by rfl) hS0 (fun w hSw => ?_) ?_
          rotate_left
          · (try dsimp only at hSw); go_simp; first | done | (with_reducible rfl)
          simp only [Act.put, List.setIfInBounds_toArray, List.set_cons_zero, List.set_cons_succ]
          refine wpAnyT_take (i := 5) (v := ?_) (d := some 71) rfl (by rfl) (by kernel_rfl) (fun _ _ _ h => h) (by rfl) hS0 (fun w hSw => ?_) ?_
          rotate_left
          · (try dsimp only at hSw); go_simp; first | done | (with_reducible rfl)
          simp only [Act.put, List.setIfInBounds_toArray, List.set_cons_zero, List.set_cons_succ]
          refine wpAnyT_take (i := 6) (v := ?_) (d := some 72) rfl (by rfl) (by kernel_rfl) (fun _ _ _ h => h) (by rfl) hS0 (fun w hSw => ?_) ?_
          rotate_left
          · (try dsimp only at hSw); go_simp; first | done | (with_reducible rfl)
          simp only [Act.put, List.setIfInBounds_toArray, List.set_cons_zero, List.set_cons_succ]
          refine wpAnyT_take (i := 7) (v := ?_) (d := some 73) rfl (by rfl) (by kernel_rfl) (fun _ _ _ h => h) (by rfl) hS0 (fun w hSw => ?_) ?_
          rotate_left
          · (try dsimp only at hSw); go_simp; first | done | (with_reducible rfl)
          simp only [Act.put, List.setIfInBounds_toArray, List.set_cons_zero, List.set_cons_succ]
          refine wpAnyT_take (i := 8) (v := ?_) (d := some 74) rfl (by rfl) (by kernel_rfl) (fun _ _ _ h => h) (by rfl) hS0 (fun w hSw => ?_) ?_
          rotate_left
          · (try dsimp only at hSw); go_simp; first | done | (with_reducible rfl)
          simp only [Act.put, List.setIfInBounds_toArray, List.set_cons_zero, List.set_cons_succ]
          refine wpAnyT_take (i := 9) (v := ?_) (d := some 75) rfl (by rfl) (by kernel_rfl) (fun _ _ _ h => h) (by rfl) hS0 (fun w hSw => ?_) ?_
          rotate_left
          · (try dsimp only at hSw); go_simp; first | done | (with_reducible rfl)
          simp only [Act.put, List.setIfInBounds_toArray, List.set_cons_zero, List.set_cons_succ]
          refine wpAnyT_take (i := 10) (v := ?_) (d := some 76) rfl (by rfl) (by kernel_rfl) (fun _ _ _ h => h) (by rfl) hS0 (fun w hSw => ?_) ?_
          rotate_left
          · (try dsimp only at hSw); go_simp; first | done | (with_reducible rfl)
          simp only [Act.put, List.setIfInBounds_toArray, List.set_cons_zero, List.set_cons_succ]
          refine wpAnyT_take (i := 11) (v := .slice A2 n2 c2) (d := some 77) rfl (by rfl) (by kernel_rfl) (fun _ _ _ h => h) (by rfl) hS0 (fun w hSw => run_fromE u8s HA2.out HN2.out HC2.out rfl rfl rfl rfl (by omega)) ?_
          simp only [Act.put, List.setIfInBounds_toArray, List.set_cons_zero, List.set_cons_succ]
          refine wpAnyT_one (i := 12) rfl (by kernel_rfl) (fun K hK => ?_)
          go_simp
          refine hK.out _ _ (.inr (hS0)) ?_
          clear hK K
          refine wpAnyT_one (i := 13) rfl (by kernel_rfl) (fun K hK => ?_)
          go_simp
          refine hK.out _ _ (.inr (hS0)) ?_
          clear hK K
          have hF78 : Frm (fun q => q = g) w7.drew (w7.drew.setCell ⟨g, oA, none⟩ (.int .u64 a2)) := (Frm.refl (fun q => q = g) w7.drew).setCell (p := ⟨g, oA, none⟩) rfl _
          have hS8 : (w7.drew.setCell ⟨g, oA, none⟩ (.int .u64 a2)).cell? ⟨p, 1, none⟩ = some (.int .u64 a2) ∧ (w7.drew.setCell ⟨g, oA, none⟩ (.int .u64 a2)).cell? ⟨g, oA + 1, none⟩ = some (.slice vA P.b.length vc) :=
            ⟨(hF78.cell (p := ⟨p, 1, none⟩) (fun e => hgp e.symm)).trans hd1, by go_simp⟩
          refine wpAnyT_one (i := 14) rfl (by kernel_rfl) (fun K hK => ?_)
          go_simp
          refine hK.out _ _ (.inr (hS8)) ?_
          clear hK K
          refine wpAnyT_one (i := 15) rfl (by kernel_rfl) (fun K hK => ?_)
          go_simp
          refine hK.out _ _ (.inr (hS8)) ?_
          clear hK K
          refine wpAnyT_one (i := 16) rfl (by kernel_rfl) (fun K hK => ?_)
          go_simp
          refine hK.out _ _ (.inr (hS8)) ?_
          clear hK K
          refine wpAnyT_one (i := 17) rfl (by kernel_rfl) (fun K hK => ?_)
          go_simp
          refine hK.out _ _ (.inl (by kernel_rfl)) ?_
          clear hK K
          refine wpAnyT_done (by kernel_rfl) ?_ _
          have hw9 : ((w7.setCell ⟨g, oA, none⟩ (.int .u64 a2)).setCell ⟨g, oA + 1, none⟩ (.slice A2 n2 c2)).drew = (w7.drew.setCell ⟨g, oA, none⟩ (.int .u64 a2)).setCell ⟨g, oA + 1, none⟩ (.slice A2 n2 c2) := rfl
          rw [← hw9] at HR8 HF08 HA8
          clear hw9 hS8 hF78 hS0 hx0 hx1 hd1 hz0 hz1 hgl HX07 HX17 HD17 HZ17 HZ27 HGL7
          generalize ((w7.setCell ⟨g, oA, none⟩ (.int .u64 a2)).setCell ⟨g, oA + 1, none⟩ (.slice A2 n2 c2)).drew = w9 at *
          have hb9 := HR8.out.blk
          unfold Bf.cells at hb9
          have hd0 := hb9.cell 0
          simp only [List.getElem?_toArray, List.getElem?_cons_zero] at hd0
          simp only [List.length_cons] at hd0
          have hp := hb9.lt
          have hz0 := hb9.frozen 0
          have hrow := HR8.out.row
          simp only [List.flatMap_cons, pvc, List.cons_append, List.nil_append] at hrow
          obtain ⟨g3, oA3, hge, hx0, hx1, h3, h4, h5, hgl, h6⟩ := hrow.set2
          injection hge with hge
          injection hge with hg1 hg2
          subst hg1 hg2
          clear h3 h4 h5 h6 hrow hx0 hb9
          have hcap := HR8.out.row.cap
          simp only [List.length_cons] at hcap
          have hrd : B.reads (d + k) = ⟨dropB k (P :: r), a2, B.top, B.win, B.fin, B.known, B.reset⟩ := by
            unfold Bf.reads
            rw [HL1.out, dropB_add, HAX.out, HA1.out, Nat.add_assoc]
          have hms : N - (d + k) < N - d := by omega
          by_cases hn0 : n2 = 0
          · have hnb : ((n2 : Int) == 0) = true := by rw [beq_iff_eq]; omega
            have hkl : ¬ k < P.b.length := by have := HN2.out; omega
            have hek : k = P.b.length := by omega
            have hsr := HSRT.out.2.2
            rw [dropB_cons, if_neg hkl, hek, Nat.sub_self, dropB_zero hsr] at hrd
            obtain ⟨A3, hA3⟩ : ∃ A3, (if c' = 1 then (some ⟨g, oA, none⟩ : Option Addr) else (some ⟨g, oA, none⟩ : Option Addr).map (·.add (1 * 2))) = A3 := ⟨_, rfl⟩
            obtain ⟨hr10, hF10⟩ := HR8.out.pop rfl hA3
            have hF010 := HF08.out.trans (hF10.mono (fun q hq => (.inl hq : Own S w q)))
            have hA10 := HA8.out.keep hF10 (fun q hq c => by have h1 := HA8.out.inM q hq; have h2 := HLOW.out q c; unfold New at h1; omega)
            have HEK := Lib.hid hek
            subst hn0
            clear hF10 hek
            have HRD := Lib.hid hrd
            have HR10 := Lib.hid hr10
            have HF010 := Lib.hid hF010
            have HA10 := Lib.hid hA10
            have HA3 := Lib.hid hA3
            have HMS := Lib.hid hms
            clear hrd hr10 hF010 hA10 hA3 hms
            go_wp2_with (refine wpList_val rfl (.slice A3 pvr.length (c' - 1)) (run_fromE pcs HA3.out rfl rfl rfl rfl rfl rfl (by omega)) ?_)
            go_roundw
            case rel => exact ⟨d + k, A6, c6, A3, c' - 1, pvr, hdk, rfl, HA10, by rw [← HEK.out] at HRD; rw [HRD.out]; exact HR10, HF010⟩
            case measure => exact HMS.out
          · have hnb : ((n2 : Int) == 0) = false := by rw [beq_eq_false_iff_ne]; omega
            have hkl : k < P.b.length := by have := HN2.out; omega
            rw [dropB_cons, if_pos hkl, ← HAX.out] at hrd
            have HRD := Lib.hid hrd
            have HMS := Lib.hid hms
            clear hrd hms
            go_wp2
            exact ⟨⟨d + k, A6, c6, _, c', _, hdk, rfl, HA8, by rw [HRD.out]; exact HR8, HF08⟩, HMS.out⟩
        · obtain rfl := HEND.out (.inr hdn)
          go_upto_region 2 with (fail)
          go_quiet (fail)
          go_wp2
          rw [← HQ.out]
          refine ⟨Ao, co, _, c', (vo, vA, vn, vc) :: pvr, by rw [← HN.out], by rw [← HN.out, ← HR.out]; exact hAo.out.fresh ((Frm.refl _ wr).drewN _), by rw [← HN.out, HB1.out]; exact hrb.out.fresh ((Frm.refl _ wr).drewN _), hF.out.drewN _⟩
      · obtain rfl := HEND.out (.inl (fun P' r' e => by cases e; exact hne))
        have hnb : ((P.off : Int) == (a1 : Int)) = false := by rw [beq_eq_false_iff_ne]; omega
        go_upto_region 2 with (fail)
        go_quiet (fail)
        go_wp2
        rw [← HQ.out]
        refine ⟨Ao, co, _, c', (vo, vA, vn, vc) :: pvr, by rw [← HN.out], by rw [← HN.out, ← HR.out]; exact hAo.out.fresh ((Frm.refl _ wr).drewN _), by rw [← HN.out, HB1.out]; exact hrb.out.fresh ((Frm.refl _ wr).drewN _), hF.out.drewN _⟩
end Go.Proofs.Ytljleaomlooiaaa.M
