/- bifoldlaw6.HdecLimits: for every input it tells true. No condition. -/
import Derived.Deep.CutBlock
import Derived.Laws.OwnMore
import Derived.Test.YtcebckkpablagaaKn6
import Derived.Test.YtcebckkpablagaaIn
import Derived.Test.YtcebckkpablagaaHpl
import Derived.Test.YtcebckkpablagaaHzs
import Derived.Test.YtcebckkpablagaaRnum
import Derived.Test.YtcebckkpablagaaArr
import Derived.Test.YtcebckkpablagaaTwo
namespace Go.Proofs.Ytcebckkpablagaa.M
open Go.ChangeShapes Go.WideShapes Go.ChangeAt Go.RowKit

theorem made_u8 (m : Nat) : madeCells (Value.int .u8 0).cells (m * 1) = (bvs (List.replicate m 0)).toArray := by
  apply Array.ext'
  rw [Nat.mul_one, show (Value.int .u8 0).cells = #[Value.int .u8 0] from rfl, toList_madeCells_one]
  simp [bvs, bv]
theorem u8_info : ∃ i, Try.prog.info? 5 = some i ∧ i.zero = some (.int .u8 0) ∧ i.size = 1 ∧ i.bytes = 1 := by
  have h : (Try.prog.info? 5).map (fun i => (i.zero, i.size, i.bytes)) = some (some (.int .u8 0), 1, 1) := by kernel_rfl
  obtain ⟨i, hi, hz, hs, hb⟩ := info_parts h
  exact ⟨i, hi, hz, hs, hb⟩
/-- m bytes, of which k are written -/
def lmC (m k : Nat) : Array Value := (List.replicate k (Value.int .u8 130) ++ List.replicate (m - k) (Value.int .u8 0)).toArray
theorem lmC_zero (m : Nat) : (bvs (List.replicate m 0)).toArray = lmC m 0 := by unfold lmC; simp [bvs, bv]
theorem lmC_all (m : Nat) : (lmC m m).toList = bvs (List.replicate m 130) := by unfold lmC; simp [bvs, bv]
theorem lmC_get (m k : Nat) (h : k < m) : (lmC m k)[k]? = some (.int .u8 0) := by
  unfold lmC
  rw [List.getElem?_toArray, List.getElem?_append_right (by simp), List.length_replicate, Nat.sub_self, List.getElem?_replicate, if_pos (by omega)]
theorem lmC_set (m k : Nat) (h : k < m) : (lmC m k).setIfInBounds k (.int .u8 130) = lmC m (k + 1) := by
  unfold lmC
  rw [List.setIfInBounds_toArray, List.set_append_right _ _ (by simp)]
  obtain ⟨d, hd⟩ : ∃ d, m - k = d + 1 := ⟨m - k - 1, by omega⟩
  have hd2 : m - (k + 1) = d := by omega
  rw [hd, hd2, List.length_replicate, Nat.sub_self, List.replicate_succ, List.set_cons_zero, List.replicate_succ', List.append_assoc]
  rfl
def mget : Fld := ([58, 109, 101, 116, 104, 111, 100], [71, 69, 84])

set_option maxRecDepth 100000 in
set_option maxHeartbeats 4000000 in
theorem hlimits_walk (n : Int) (long : Bool) (W : World) (hn : (Lit.int .u8 n).wf = true) :
    Calls Try.prog 10 #[.int .u8 n, .bool long] W fun e w' => e = .returned (.bool true) ∧ Below W.heap.size W w' := by
  have hn : 0 ≤ n ∧ n ≤ 255 := by
    simp only [Lit.wf, decide_eq_true_eq, Bool.and_eq_true] at hn; exact hn
  obtain ⟨n, rfl⟩ : ∃ u : Nat, n = u := ⟨n.toNat, by omega⟩
  obtain ⟨q, hq⟩ : ∃ t, t = n % 5 := ⟨_, rfl⟩
  have mn : (n : Int) % 5 = (q : Int) := by omega
  have mn2 : Int.tmod (n : Int) 5 = (q : Int) := by rw [Int.tmod_eq_emod_of_nonneg (by omega)]; omega
  have hq5 : q < 5 := by omega
  obtain ⟨kv, hkv⟩ : ∃ kv : Int, kv = (q : Int) - 2 := ⟨_, rfl⟩
  obtain ⟨m, hm⟩ : ∃ m, m = 4094 + q := ⟨_, rfl⟩
  obtain ⟨m2, hm2⟩ : ∃ m2, m2 = 62 + q := ⟨_, rfl⟩
  have wk : IntKind.i64.wrap ((q : Int) - 2) = kv := by rw [hkv]; exact IntWalk.i64_in _ (by omega)
  have wm : IntKind.i64.wrap (4096 + kv) = (m : Int) := by rw [show 4096 + kv = (m : Int) by omega]; exact IntWalk.i64_in _ (by omega)
  have wm2 : IntKind.i64.wrap (64 + kv) = (m2 : Int) := by rw [show 64 + kv = (m2 : Int) by omega]; exact IntWalk.i64_in _ (by omega)
  have hmk : (m : Int) = 4096 + kv := by omega
  have hmk2 : (m2 : Int) = 64 + kv := by omega
  have hk5 : -2 ≤ kv ∧ kv ≤ 2 := by omega
  have hm4 : m ≤ 5000 := by omega
  have hm24 : m2 ≤ 66 := by omega
  clear hq hm hm2 hkv
  have HMK := Lib.hid hmk
  have HMK2 := Lib.hid hmk2
  clear hmk hmk2
  obtain ⟨ui, hui, huz, hus, hub⟩ := u8_info
  have HUS := Lib.hid hus
  have HUB := Lib.hid hub
  clear hus hub
  go_enter Try.func10, Try.ntmps10
  go_wp2_with (fail)
  refine (known6_any _).mono ?_
  rintro e w1 ⟨rfl, hF1⟩
  have HF1 := Lib.hid hF1
  clear hF1
  go_wp2_with (fail)
  refine (hdnew_any 4096 (by omega) (by omega) _).mono ?_
  rintro e w2 ⟨S, pd, g, rfl, hE2, hF2, hS2, hp2⟩
  rw [show lim 4096 = 4096 from rfl] at hE2
  have hK2 : KSt W w2 S pd g deN := ⟨hE2, HF1.out.then_new Up.new hF2, fun k hk => Nat.le_trans HF1.out.size (hS2 k hk), Nat.le_trans HF1.out.size hp2⟩
  have HK2 := Lib.hid hK2
  clear hK2
  clear hE2 hF2 hS2 hp2 HF1
  cases long with
  | true =>
    obtain ⟨s, hs⟩ : ∃ s : Bytes, s = List.replicate m 0 := ⟨_, rfl⟩
    have hsl : s.length = m := by rw [hs]; simp
    have hsz := str_size s
    rw [hsl] at hsz
    have HC : Hid (madeCells (Value.int .u8 0).cells (m * ui.size) = (bvs s).toArray) := by show _ = _; rw [HUS.out, made_u8, ← hs]
    clear hs
    have HSL := Lib.hid hsl
    clear hsl
    go_wp2_with (refine wpList_make rfl Try.underlying22 hui huz rfl (m := m) rfl rfl (by rw [HUB.out]; omega) (by unfold maxLen; omega) ?_; intro w3 hb3 hF3 hs3; clear hs3; rw [HC.out] at hb3)
    have hF4 : Frm (New w3) w3 (w3.alloc (Obj.cells #[.int .u8 8] 5)) := (Frm.refl _ _).alloc Up.new _
    have hA4 : App (New w3) (w3.alloc (Obj.cells #[.int .u8 8] 5)) 5 1 (some ⟨w3.heap.size, 0, none⟩) 1 1 (bvs [8]) :=
      App.full (Rd.new w3 #[.int .u8 8] 5) rfl (by decide) (fun c => by cases c) (fun k hk => by
        have hk2 : w3.heap.size = k := by simpa using hk
        unfold New; omega)
    have hp : Calls Try.prog 39 #[.slice (some ⟨w3.heap.size, 0, none⟩) 1 1, .int .u8 0, .int .i64 7, .int .u64 (m : Int)] (w3.alloc (Obj.cells #[.int .u8 8] 5)) (RetA (New w3) (w3.alloc (Obj.cells #[.int .u8 8] 5)) ([8] ++ pfx 0 7 m)) := rprefix_nat (New w3) [8] (some ⟨w3.heap.size, 0, none⟩) 1 0 7 m _ (Up.new.of hF4.size) hA4 (by simp) (by omega) (by omega) (by omega) (by omega)
    have hR3 : Rd w3 (some ⟨w2.heap.size, 0, none⟩) (bvs s) := by simpa using hb3.rd
    have hK3 := HK2.out.fresh hF3
    have hpl := pfx_length 0 7 m
    have hLB : longB s = ([8] ++ pfx 0 7 m) ++ s := by unfold longB; rw [HSL.out]; rfl
    have hrun := long_all s (by rw [HSL.out]; omega)
    rw [HSL.out, hLB] at hrun
    have hL1 : ([8] ++ pfx 0 7 m).length ≤ 20 := by simp; omega
    have hL2 : (([8] ++ pfx 0 7 m) ++ s) ≠ [] := by simp
    refine hp.mono ?_
    rintro e w5 ⟨A5, c5, rfl, hA5, hF5⟩
    have hF35 := hF4.trans hF5
    have hR5 := hR3.fresh hF35
    generalize [8] ++ pfx 0 7 m = P0 at *
    obtain ⟨L, hL⟩ : ∃ L, L = P0 ++ s := ⟨_, rfl⟩
    have hLl : P0.length + m = L.length := by rw [hL, List.length_append, HSL.out]
    have hLb : bvs P0 ++ bvs s = bvs L := by rw [hL, bvs_append]
    rw [← hL] at hrun hL2
    have hL3 : L.length ≤ 6000 := by omega
    have HK3 := Lib.hid hK3
    have HLL := Lib.hid hLl
    have HLB := Lib.hid hLb
    have HRUN := Lib.hid hrun
    have HL2 := Lib.hid hL2
    have HL := Lib.hid hL
    clear hK3 hLl hLb hrun hL2 hL
    clear hp hA4 hF4 hF5 hR3 hF3 hb3 hLB HK2
    go_wp2_with (at_builtin; refine wpList_append u8s rfl rfl rfl hA5 (Up.new.of hF35.size) rfl hR5 (by rw [bvs_length, HSL.out, Nat.mul_one]) (bvs_one _) (by omega) ?_; intro A6 c6 w6 hA6 hF6 _ _; rw [HLL.out] at hA6 ⊢; rw [HLB.out] at hA6; have hF36 := hF35.trans hF6; clear hA5 hF35 hF6)
    have hK6 := HK3.out.fresh hF36
    refine (kdec hK6 L A6 c6 hA6.rd hA6.cap (fun k hk => by
      have h1 := hA6.inM k hk
      unfold New at h1
      have h2 := HK3.out.de.blk.lt
      exact ⟨by omega, fun c => by have := HK3.out.de.tab.low k c; omega, App.lt hA6 (fun c => HL2.out (List.eq_nil_of_length_eq_zero (by have := congrArg List.length c; rw [bvs_length] at this; simpa using this))) k hk⟩) (by omega) (fun _ => by show 0 + _ ≤ _; omega)).mono ?_
    rintro e w7 hres
    clear hR5 hA6 hF36 hK6 HLL HLB
    by_cases h4 : m ≤ 4096
    · obtain ⟨nm, T, hr⟩ := HRUN.out.1 h4
      rw [hr] at hres
      obtain ⟨S7, A7, c7, hK7, rfl, hA7, _, _⟩ := hres
      replace hA7 := hA7 (by simp)
      obtain ⟨g7, o7, rfl, hx⟩ := hA7.rd 1 (.string ⟨s.toArray⟩) rfl
      have hg7 := World.block_lt_of_cell? _ _ hx
      have hlen1 : ([(nm, s)] : List Fld).length = 1 := rfl
      rw [hlen1]
      have hd1 : decide (kv ≤ 0) = true := decide_eq_true (by have := HMK.out; omega)
      have hd2 : decide (0 < kv) = false := decide_eq_false (by have := HMK.out; omega)
      have HK7 := Lib.hid hK7
      clear hK7
      clear hA7 hr
      go_wp2
      go_ret
      exact ⟨rfl, HK7.out.frm.below⟩
    · have hr := HRUN.out.2 (by omega)
      rw [hr] at hres
      obtain ⟨S7, D7, hK7, rfl, _, _, _⟩ := hres
      have hd1 : decide (kv ≤ 0) = false := decide_eq_false (by have := HMK.out; omega)
      have hd2 : decide (0 < kv) = true := decide_eq_true (by have := HMK.out; omega)
      have HK7 := Lib.hid hK7
      clear hK7
      clear hr
      go_wp2
      go_ret
      exact ⟨rfl, HK7.out.frm.below⟩
  | false =>
    have HC : Hid (madeCells (Value.int .u8 0).cells (m2 * ui.size) = lmC m2 0) := by show _ = _; rw [HUS.out, made_u8, lmC_zero]
    go_wp2_with (refine wpList_make rfl Try.underlying22 hui huz rfl (m := m2) rfl rfl (by rw [HUB.out]; omega) (by unfold maxLen; omega) ?_; intro w3 hb3 hF3 hs3; clear hs3; rw [HC.out] at hb3)
    have hK3 := HK2.out.fresh hF3
    have hg2 : w2.heap.size < w3.heap.size := hb3.lt
    obtain ⟨gb, hgb⟩ : ∃ gb, gb = w2.heap.size := ⟨_, rfl⟩
    rw [← hgb] at hb3 hg2 ⊢
    have hfar : ∀ k, S k → k ≠ gb := fun k hk => by have := HK2.out.de.tab.low k hk; omega
    have hpd : pd ≠ gb := by have := HK2.out.de.blk.lt; omega
    have hW2 := HK2.out.frm.size
    have hWg : W.heap.size ≤ gb := by omega
    have HB3 := Lib.hid hb3
    have HK3 := Lib.hid hK3
    have HGB := Lib.hid hgb
    have HFAR := Lib.hid hfar
    clear hb3 hK3 hgb hfar
    clear hF3 HK2 hW2
    go_loopw [12] (fun i wr => ∃ k : Nat, k ≤ m2 ∧ i = .int .i64 k ∧ Hid (Blk wr gb 5 (lmC m2 k)) ∧ Hid (KSt W wr S pd g deN)) (fun i _ => m2 - (intOf i).toNat)
    case atStart => exact ⟨0, Nat.zero_le _, rfl, HB3, HK3⟩
    case round =>
      obtain ⟨k, hk, rfl, hB, hK⟩ := hrel
      clear HB3 HK3
      by_cases hlt : k < m2
      · have hx := hB.out.cell k
        rw [lmC_get m2 k hlt] at hx
        have hz := hB.out.frozen k
        have hgl := hB.out.lt
        go_wp2
        go_roundw
        case rel =>
          have hFs : Frm (fun j => j = gb) wr (wr.setCell ⟨gb, k, none⟩ (.int .u8 130)) := (Frm.refl (fun j => j = gb) wr).setCell (p := ⟨gb, k, none⟩) rfl _
          have hB2 := hB.out.set_ k (.int .u8 130)
          rw [lmC_set m2 k hlt] at hB2
          exact ⟨k + 1, by omega, by go_num, hB2, hK.out.de.keep hFs (fun j hj e => HFAR.out j hj e) hpd, hK.out.frm.trans (hFs.mono (fun j e => by rw [e]; exact hWg)), hK.out.low, hK.out.pw⟩
        case measure => simp [intOf]; omega
      · obtain rfl : k = m2 := by omega
        have hR := hB.out.rd
        rw [lmC_all] at hR
        have hgl := hB.out.lt
        have hd : Calls Try.prog 36 #[.pointer (some ⟨pd, 0, none⟩), .slice (some ⟨gb, 0, none⟩) k k] wr (KRes W wr S pd g deN (deN.run (List.replicate k 130))) := by
          have h := kdec hK.out (List.replicate k 130) (some ⟨gb, 0, none⟩) k hR (by simp) (fun j hj => by
            have hj2 : gb = j := by simpa using hj
            subst hj2
            exact ⟨fun e => hpd e.symm, fun c => HFAR.out _ c rfl, hgl⟩) (by simp; omega) (fun _ => by simp; show 0 + _ ≤ _; omega)
          rw [List.length_replicate] at h
          exact h
        rw [many_all] at hd
        have HD := Lib.hid hd
        clear hd
        clear hR
        go_wp2_with (fail)
        refine HD.out.mono ?_
        rintro e w7 hres
        by_cases h6 : k ≤ 64
        · rw [if_pos (.inr h6)] at hres
          obtain ⟨S7, A7, c7, hK7, rfl, _, _, _⟩ := hres
          have hlen1 : (List.replicate k ([58, 109, 101, 116, 104, 111, 100], [71, 69, 84]) : List Fld).length = k := List.length_replicate
          rw [hlen1]
          have hd1 : decide (kv ≤ 0) = true := decide_eq_true (by have := HMK2.out; omega)
          have hd2 : decide (0 < kv) = false := decide_eq_false (by have := HMK2.out; omega)
          have HK7 := Lib.hid hK7
          clear hK7
          go_wp2
          go_ret
          exact ⟨rfl, HK7.out.frm.below⟩
        · rw [if_neg (by have := HMK2.out; omega)] at hres
          obtain ⟨S7, D7, hK7, rfl, _, _, _⟩ := hres
          have hd1 : decide (kv ≤ 0) = false := decide_eq_false (by have := HMK2.out; omega)
          have hd2 : decide (0 < kv) = true := decide_eq_true (by have := HMK2.out; omega)
          have HK7 := Lib.hid hK7
          clear hK7
          go_wp2
          go_ret
          exact ⟨rfl, HK7.out.frm.below⟩
end Go.Proofs.Ytcebckkpablagaa.M
