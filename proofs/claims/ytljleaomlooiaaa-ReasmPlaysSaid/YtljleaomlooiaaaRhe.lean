/- reasm.Held: what it returns. The pieces in order below 2^62. -/
import Derived.BigQuiet
import Derived.Deep.CutBlock
import Derived.Lib.Hide
import Derived.IntWalk
import Derived.Test.YtljleaomlooiaaaRat
namespace Go.Proofs.Ytljleaomlooiaaa.M
open Go.ChangeShapes Go.WideShapes Go.ChangeAt Go.RowKit

set_option maxRecDepth 100000 in
set_option maxHeartbeats 2000000 in
theorem held_any {S : Nat → Prop} {p c : Nat} {B : Bf} {A : Option Addr} {pv : List Pv} (w : World) (h : RbAt S w p B A c pv) (ho : B.Ok) :
    Calls Try.prog 12 #[.pointer (some ⟨p, 0, none⟩)] w fun e w' => e = .returned (.int .i64 (hl B.l)) ∧ Frm (New w) w w' := by
  have hlen := h.pcs.len
  have hsum : hl B.l ≤ 4611686018427387903 := by
    by_cases hn : B.l = []
    · rw [hn]; simp [hl]
    · have := hl_le ho.srt ho.stop hn
      have := ho.top
      have := ho.win
      omega
  have hcap := h.row.cap
  have hmax := h.row.max
  simp only [maxLen] at hmax
  have hR := h.row.rd
  have hP := h.pcs
  have hb := h.blk
  obtain ⟨l, a, top, win, fin, known, reset⟩ := B
  simp only at hlen hsum hP
  unfold Bf.cells at hb
  simp only at hb
  have h0 := hb.cell 0
  simp only [List.getElem?_toArray, List.getElem?_cons_zero] at h0
  have hp := hb.lt
  rw [hlen] at h0 hcap
  have HLN := Lib.hid hlen
  clear hlen
  have HR := Lib.hid hR
  have HP := Lib.hid hP
  clear hR hP
  clear h hb ho
  go_enter Try.func12, Try.ntmps12
  go_upto_region 3 with (fail)
  go_loopw [3, 11] (fun vn vi wr => ∃ k : Nat, k ≤ l.length ∧ vn = .int .i64 (hl (l.take k)) ∧ vi = .int .i64 k ∧ Hid (Frm (New w) w wr)) (fun _ vi _ => l.length - (intOf vi).toNat)
  case atStart => exact ⟨0, Nat.zero_le _, by simp [hl], rfl, Frm.refl _ _⟩
  case round =>
    obtain ⟨k, hk, rfl, rfl, hF⟩ := hrel
    by_cases hlt : k < l.length
    · obtain ⟨gA, oA, rfl, hx0, hx1⟩ := pvcells (HR.out.fresh hF.out) k (by rw [HLN.out]; exact hlt)
      have hgw := World.block_lt_of_cell? _ _ hx0
      have hPk := (HP.out.at_ k (by rw [HLN.out]; exact hlt) hlt).len
      have hT := hl_take l k hlt
      have hM := hl_mono l (k + 1)
      generalize pv[k]'(by rw [HLN.out]; exact hlt) = v at *
      obtain ⟨vo, vA, vn, vc⟩ := v
      simp only at hPk hx0 hx1
      subst hPk
      generalize l[k] = P at *
      have hw1 : IntKind.i64.wrap ((hl (l.take k) : Int) + (P.b.length : Int)) = ((hl (l.take (k + 1)) : Nat) : Int) := by
        rw [show ((hl (l.take k) : Int) + (P.b.length : Int)) = ((hl (l.take (k + 1)) : Nat) : Int) by omega]
        exact IntWalk.i64_in _ (by omega)
      go_upto_region 4 with (fail)
      go_upto_region 5 with (first
          | (refine wpList_new rfl rfl zPc rfl ?_; intro w6 hb6 hF6 hs6)
          | (refine wpList_store_agg rfl rfl rfl (cs := #[.int .u64 vo, .slice vA P.b.length vc]) rfl hb6 rfl (pvone [(vo, vA, P.b.length, vc)]) (by kernel_rfl) ?_; intro w7 hb7 hF7 hs7))
      have hy1 := hb7.cell 1
      simp only [List.getElem?_toArray, List.getElem?_cons_zero, List.getElem?_cons_succ] at hy1
      have hF7' := hF6.trans (hF7.mono (fun q e => by rw [e]; exact Nat.le_refl _))
      have hFw := hF.out.then_new Up.new hF7'
      go_wp2
      go_roundw
      case rel => exact ⟨k + 1, by omega, congrArg (Value.int .i64) (by omega), by go_num, hFw⟩
      case measure => simp [intOf]; omega
    · obtain rfl : k = l.length := by omega
      rw [List.take_length]
      go_wp2
      go_ret
      exact ⟨rfl, hF.out⟩
end Go.Proofs.Ytljleaomlooiaaa.M
