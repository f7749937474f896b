/- qenc: waits. -/
import Derived.BigQuiet
import Derived.Deep.CutBlock
import Derived.Lib.Hide
import Derived.IntWalk
import Derived.Deep.LoopGhost
import Derived.Test.YtdgggjeiflllhaaNm
import Derived.Test.YtdgggjeiflllhaaGin
namespace Go.Proofs.Ytdgggjeiflllhaa.M
open Go.ChangeShapes Go.WideShapes Go.ChangeAt Go.RowKit

theorem uMo : Try.prog.underlying 73 = some (.map 32 92) := Try.underlying73
theorem zSecs : (Try.prog.info? 92).map (·.zero) = some (some (.slice none 0 0)) := by kernel_rfl
theorem zSec1 : (Try.prog.info? 84).map (·.zero) = some (some (.agg #[.int .u64 0, .map none])) := by kernel_rfl
theorem sec_one (a : Int) (b : Nat) : ∀ u ∈ (#[.int .u64 a, .map (some b)] : Array Value).toList, u.oneCell' = true := fun u hu => by
  simp at hu
  rcases hu with rfl | rfl <;> rfl
theorem secC_cells {w : World} {g off : Nat} {l : List (Qs × Nat)} (h : Rd w (some ⟨g, off, none⟩) (secC l)) (i : Nat) (hi : i < l.length) :
    w.cell? ⟨g, off + i * 2, none⟩ = some (.int .u64 (l[i].1.count : Int)) ∧ w.cell? ⟨g, off + i * 2 + 1, none⟩ = some (.map (some l[i].2)) := by
  have key := elem_cells (fun x : Qs × Nat => [Value.int .u64 (x.1.count : Int), Value.map (some x.2)]) 2 (fun _ => rfl) h i hi
  exact ⟨key 0 _ (by omega) rfl, key 1 _ (by omega) rfl⟩
/-- what a stream's look-up yields -/
theorem QnM.look {X S : Nat → Prop} {w : World} {pe g bm cr : Nat} {Ar : Option Addr} {L : List (Nat × Ro)} {E : Qn} (h : QnM X w pe g bm S Ar cr L E) (s : Nat) :
    ∃ (A : Option Addr) (c : Nat) (l : List (Qs × Nat)), (getE s (entsR L)).getD (.slice none 0 0) = .slice A l.length c ∧ Rd w A (secC l) ∧ l.length ≤ c ∧ (∀ y ∈ l, y.1.count ≤ 1152921504606846976) ∧ l.map (·.1) = E.opn.filter (fun o => decide (o.stream = s)) ∧ (getE s L = none → l = []) ∧ (∀ x, getE s L = some x → A = x.A ∧ c = x.c ∧ l = x.l) ∧ l.length ≤ maxLen := by
  have hs := h.secs s
  rw [getE_entsR]
  cases hg : getE s L with
  | none =>
    rw [hg] at hs
    exact ⟨none, 0, [], rfl, Rd.nil, Nat.le_refl _, fun y hy => (by cases hy), hs.symm, fun _ => rfl, fun x hx => (by cases hx), Nat.zero_le _⟩
  | some x =>
    rw [hg] at hs
    exact ⟨x.A, x.c, x.l, rfl, hs.1.app.rd, hs.1.app.cap, hs.1.small, hs.2, fun q => (by cases q), fun y hy => (by cases hy; exact ⟨rfl, rfl, rfl⟩), Nat.le_trans hs.1.app.cap hs.1.app.max⟩
set_option maxRecDepth 100000 in
set_option maxHeartbeats 4000000 in
theorem nwaits_any {X S : Nat → Prop} {w : World} {pe g bm cr : Nat} {Ar : Option Addr} {L : List (Nat × Ro)} {E : Qn} (h : QnM X w pe g bm S Ar cr L E) (s : Nat) :
    Calls Try.prog 117 #[.pointer (some ⟨pe, 0, none⟩), .int .u64 (s : Int)] w fun e w' => e = .returned (.bool (E.stuck s)) ∧ Frm (New w) w w' := by
  obtain ⟨A, c, l, hv, hR, hlc, hsm, hl, _, _, hlm⟩ := h.look s
  simp only [maxLen] at hlm
  have hlk := run_lookup ukeys uMo zSecs h.map s false
  rw [hv] at hlk
  simp only [Bool.false_eq_true, if_false, ukey] at hlk
  have hst : E.stuck s = l.any fun y => decide (E.known < y.1.count) := by
    rw [stuck_filter, ← hl, List.any_map]
    rfl
  have hb := h.blk
  have hy2 := hb.cell 2
  have hy3 := hb.cell 3
  simp only [List.getElem?_toArray, List.getElem?_cons_zero, List.getElem?_cons_succ] at hy2 hy3
  have hpl := hb.lt
  have H := Lib.hid h
  have HB := Lib.hid hb
  have HST := Lib.hid hst
  have HR := Lib.hid hR
  have HL := Lib.hid hl
  have HSM := Lib.hid hsm
  clear h hb hst hR hl hsm
  clear hv
  go_enter Try.func117, Try.ntmps117
  go_wp2_with (fail)
  go_loopg [14] l.length (fun kk v wx => ∃ i : Nat, v = .int .i64 (i : Int) ∧ i + kk = l.length ∧ Hid (∀ y ∈ l.take i, ¬ E.known < y.1.count) ∧ Hid (Frm (New w) w wx))
  case atStart => exact ⟨0, rfl, by omega, Lib.hid (fun y hy => by cases hy), Lib.hid (Frm.refl _ _)⟩
  case round =>
    obtain ⟨i, rfl, hi, hno, hF⟩ := hrel
    rename World => wx
    by_cases hil : i < l.length
    · have hili : (i : Int) < (l.length : Int) := by omega
      have hRx := HR.out.fresh hF.out
      obtain ⟨gA, oA, rfl, hjunk⟩ := hRx.at_ (k := i * 2) (by rw [secC_len]; omega)
      clear hjunk
      obtain ⟨hc0, hc1⟩ := secC_cells hRx i hil
      have hgl := World.block_lt_of_cell? _ _ hc0
      simp only at hgl
      have hsmi := HSM.out l[i] (List.getElem_mem hil)
      have htk : l.take (i + 1) = l.take i ++ [l[i]] := by rw [List.take_add_one, List.getElem?_eq_getElem hil]; rfl
      have hmem := List.getElem_mem hil
      generalize l[i] = y at *
      obtain ⟨⟨ys, yc, yu⟩, yb⟩ := y
      simp only at hc0 hc1 hsmi
      have hbx := HB.out.fresh hF.out
      clear hy2 hy3 hpl
      have hy2 := hbx.cell 2
      simp only [List.getElem?_toArray, List.getElem?_cons_zero, List.getElem?_cons_succ] at hy2
      have hpl := hbx.lt
      have hFx := hF.out
      have HBX := Lib.hid hbx
      have HRX := Lib.hid hRx
      have HTK := Lib.hid htk
      have HMEM := Lib.hid hmem
      clear hbx hRx htk hmem
      go_upto_region 4 with (first
        | (refine wpList_new rfl rfl zSec1 rfl ?_; intro w2 hb2 hF2 hs2)
        | (refine wpList_store_agg rfl rfl rfl rfl hb2 rfl (sec_one _ _) (by kernel_rfl) ?_; intro w3 hb3 hF3 hs3))
      have hF23 : Frm (New wx) wx w3 := hF2.trans (hF3.mono (fun k hk => by subst hk; exact Nat.le_refl _))
      have hb9 := HBX.out.fresh hF23
      have hF03 := hFx.then_new Up.new hF23
      clear hy2 hpl hb2 hF2 hs2 hF3 hs3 hc0 hc1 hgl hFx hF
      have hy2 := hb9.cell 2
      simp only [List.getElem?_toArray, List.getElem?_cons_zero, List.getElem?_cons_succ] at hy2
      have hk0 := hb3.cell 0
      simp only [List.getElem?_toArray, List.getElem?_cons_zero] at hk0
      have hpl := hb9.lt
      have hkl := hb3.lt
      have HB9 := Lib.hid hb9
      have HB3 := Lib.hid hb3
      have HF03 := Lib.hid hF03
      have HF23 := Lib.hid hF23
      have HNO := Lib.hid hno
      clear hb9 hb3 hF03 hF23 hno
      generalize wx.heap.size = bx at *
      by_cases hk : E.known < yc
      · have hki : (E.known : Int) < (yc : Int) := by omega
        go_quiet (fail)
        all_goals go_wp2
        all_goals go_ret
        all_goals refine ⟨?_, HF03.out.drewN _⟩
        all_goals rw [HST.out, show (l.any fun y => decide (E.known < y.1.count)) = true from List.any_eq_true.2 ⟨_, HMEM.out, decide_eq_true hk⟩]
        all_goals rfl
      · have hki : ¬ (E.known : Int) < (yc : Int) := by omega
        go_quiet (fail)
        all_goals go_wp2
        go_roundg (gk - 1)
        case measure => omega
        case rel =>
          refine ⟨i + 1, ?_, by omega, ?_, Lib.hid (HF03.out.drewN _)⟩
          · rw [Int.natCast_add]; rfl
          · show ∀ _, _
            rw [HTK.out]
            intro z hz
            rcases List.mem_append.1 hz with q | q
            · exact HNO.out z q
            · rw [List.mem_singleton.1 q]; exact hk
    · have hili : ¬ (i : Int) < (l.length : Int) := by omega
      obtain rfl : i = l.length := by omega
      go_wp2
      go_ret
      refine ⟨?_, hF.out⟩
      rw [HST.out]
      have hh := hno.out
      rw [List.take_length] at hh
      rw [show (l.any fun y => decide (E.known < y.1.count)) = false from List.any_eq_false.2 (fun y hy => by simpa using hh y hy)]
      rfl
end Go.Proofs.Ytdgggjeiflllhaa.M
