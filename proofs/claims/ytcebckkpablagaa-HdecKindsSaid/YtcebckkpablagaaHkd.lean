/- bifoldlaw6.HdecKinds: for every input it tells true. No condition. -/
import Derived.Deep.CutBlock
import Derived.BigQuiet
import Derived.Test.YtcebckkpablagaaKn6
import Derived.Test.YtcebckkpablagaaIn
import Derived.Test.YtcebckkpablagaaHpl
import Derived.Test.YtcebckkpablagaaBy
import Derived.Test.YtcebckkpablagaaHzs
import Derived.Test.YtcebckkpablagaaKey
namespace Go.Proofs.Ytcebckkpablagaa.M
open Go.ChangeShapes Go.WideShapes Go.ChangeAt Go.RowKit

theorem strz {H : Type} {P : Program} {T : TypeId} {s : ByteArray} (hw : ∀ n ∈ (DataW.lit (.string s.data.toList) : DataW H).weights P T, n ≤ reachBytes) : s.size ≤ 1125899906842624 := by
  have h9 : s.data.toList.length ≤ reachBytes := hw _ (by simp [DataW.weights])
  rw [size_len] at h9
  exact Nat.le_trans h9 (by decide)
def tF (q : Nat) : Nat := if q = 0 then 64 else if q = 1 then 0 else 16
def tK (q : Nat) : Nat := if q = 0 then 6 else 4
theorem tLK (q : Nat) (h : q < 3) : LK (tF q) (tK q) := by
  unfold tF tK LK
  obtain rfl | rfl | rfl : q = 0 ∨ q = 1 ∨ q = 2 := by omega
  · exact .inl ⟨rfl, rfl⟩
  · exact .inr (.inl ⟨rfl, rfl⟩)
  · exact .inr (.inr ⟨rfl, rfl⟩)
theorem tF0 (q : Nat) : tF q = 64 ↔ q = 0 := by unfold tF; split <;> (try split) <;> simp_all
theorem tab_get {i : Nat} (h : i - 1 < h2tab.length) (h0 : i ≠ 0) (h1 : i ≤ 61) (n : Bytes) : (h2tab[i - 1]).1 = kdN i n := by
  unfold kdN
  rw [if_neg h0, if_pos h1, List.getElem?_eq_getElem h]
  rfl

set_option maxRecDepth 100000 in
set_option maxHeartbeats 4000000 in
theorem hkinds_walk (k i : Int) (s1 s2 : ByteArray) (coded : Bool) (W : World) (hk : (Lit.int .u8 k).wf = true) (hi : (Lit.int .u8 i).wf = true) (h1 : s1.size ≤ 1125899906842624) (h2 : s2.size ≤ 1125899906842624) :
    Calls Try.prog 12 #[.int .u8 k, .int .u8 i, .string s1, .string s2, .bool coded] W fun e w' => e = .returned (.bool true) ∧ Below W.heap.size W w' := by
  have hk : 0 ≤ k ∧ k ≤ 255 := by
    simp only [Lit.wf, decide_eq_true_eq, Bool.and_eq_true] at hk; exact hk
  have hi : 0 ≤ i ∧ i ≤ 255 := by
    simp only [Lit.wf, decide_eq_true_eq, Bool.and_eq_true] at hi; exact hi
  obtain ⟨k, rfl⟩ : ∃ u : Nat, k = u := ⟨k.toNat, by omega⟩
  obtain ⟨i, rfl⟩ : ∃ u : Nat, i = u := ⟨i.toNat, by omega⟩
  obtain ⟨n, rfl⟩ : ∃ l : Bytes, s1 = ⟨l.toArray⟩ := ⟨s1.data.toList, by rw [Array.toArray_toList]⟩
  obtain ⟨v, rfl⟩ : ∃ l : Bytes, s2 = ⟨l.toArray⟩ := ⟨s2.data.toList, by rw [Array.toArray_toList]⟩
  have e1 := str_size n
  have e2 := str_size v
  rw [e1] at h1
  rw [e2] at h2
  obtain ⟨q, hq⟩ : ∃ t, t = k % 3 := ⟨_, rfl⟩
  obtain ⟨at_, hat⟩ : ∃ t, t = i % 63 := ⟨_, rfl⟩
  have mk : (k : Int) % 3 = (q : Int) := by omega
  have mk2 : Int.tmod (k : Int) 3 = (q : Int) := by rw [Int.tmod_eq_emod_of_nonneg (by omega)]; omega
  have mi : (i : Int) % 63 = (at_ : Int) := by omega
  have mi2 : Int.tmod (i : Int) 63 = (at_ : Int) := by rw [Int.tmod_eq_emod_of_nonneg (by omega)]; omega
  have hq3 : q < 3 := by omega
  have hat6 : at_ ≤ 62 := by omega
  have wat : IntKind.u64.wrap (at_ : Int) = at_ := IntWalk.u64_in _ (by omega)
  clear hq hat
  go_enter Try.func12, Try.ntmps12
  go_wp2_with (fail)
  refine (known6_any _).mono ?_
  rintro e w1 ⟨rfl, hF1⟩
  have HF1 := Lib.hid hF1
  clear hF1
  have hw1 : IntKind.i64.wrap ((n.length : Int) + (v.length : Int)) = ((n.length + v.length : Nat) : Int) := by
    rw [show ((n.length : Int) + (v.length : Int)) = ((n.length + v.length : Nat) : Int) from by omega]
    exact IntWalk.i64_in _ (by omega)
  by_cases q2 : 100 < n.length + v.length
  · generalize n.length + v.length = fl at *
    go_wp2
    go_ret
    exact ⟨rfl, HF1.out.below⟩
  have hfl := Lib.hid q2
  go_upto_region 5 with (fail)
  clear hw1 q2
  have hs : n.length + v.length ≤ 100 := by have := hfl.out; omega
  go_wp2_with (fail)
  refine (hdnew_any 4096 (by omega) (by omega) _).mono ?_
  rintro e w2 ⟨S, pd, g, rfl, hE2, hF2, hS2, hp2⟩
  have hl96 : lim 4096 = 4096 := rfl
  rw [hl96] at hE2
  have hK2 : KSt W w2 S pd g deN := ⟨hE2, HF1.out.then_new Up.new hF2, fun k hk => Nat.le_trans HF1.out.size (hS2 k hk), Nat.le_trans HF1.out.size hp2⟩
  have hF3 : Frm (New w2) w2 (w2.alloc (Obj.cells #[.int .u8 64, .int .u8 1, .int .u8 100] 5)) := (Frm.refl _ _).alloc Up.new _
  have hA3 : App (New w2) (w2.alloc (Obj.cells #[.int .u8 64, .int .u8 1, .int .u8 100] 5)) 5 1 (some ⟨w2.heap.size, 0, none⟩) 3 3 (bvs [64, 1, 100]) :=
    App.full (Rd.new w2 #[.int .u8 64, .int .u8 1, .int .u8 100] 5) rfl (by decide) (fun c => by cases c) (fun k hk => by
      have hk2 : w2.heap.size = k := by simpa using hk
      unfold New; omega)
  have hz3 : (w2.alloc (Obj.cells #[.int .u8 64, .int .u8 1, .int .u8 100] 5)).heap.size = w2.heap.size + 1 := by simp
  have t1 := trivial
  have t2 := trivial
  have HK2 := Lib.hid hK2
  have HZ3 := Lib.hid hz3
  clear hK2 hz3
  clear hE2 hF2 hS2 hp2 HF1 hl96
  go_wp2_with (first
    | (at_builtin; clear t1; refine wpList_append_lit (m := 1) (d := 1) u8s rfl rfl rfl hA3 (Up.new.of hF3.size) (by rw [HZ3.out]; rfl) rfl (one_cell _ rfl) (by omega) ?_; intro A4 c4 w4 hA4 hF4 _ _; have hF24 := hF3.trans hF4; clear hA3 hF3 hF4)
    | (at_builtin; clear t2; refine wpList_append_lit u8s rfl rfl rfl hA4 (Up.new.of hF24.size) rfl rfl (one_cell _ rfl) (by omega) ?_; intro A5 c5 w5 hA5 hF5 _ _; have hF25 := hF24.trans hF5; clear hA4 hF24 hF5))
  have hA5' : App (New w2) w5 5 1 A5 5 c5 (bvs [64, 1, 100, 1, 118]) := hA5
  have hK5 := HK2.out.fresh hF25
  have hd := kdec hK5 [64, 1, 100, 1, 118] A5 c5 hA5'.rd hA5'.cap (fun q hq => by
    have h1 := hA5'.inM q hq
    unfold New at h1
    have h2 := HK2.out.de.blk.lt
    exact ⟨by omega, fun c => by have := HK2.out.de.tab.low q c; omega, App.lt hA5' (List.cons_ne_nil _ _) q hq⟩) (by simp) (fun _ => by decide)
  rw [show deN.run [64, 1, 100, 1, 118] = some ([([100], [118])], kdT) from kd_start] at hd
  refine hd.mono ?_
  rintro e w6 ⟨S6, A6, c6, hK6, rfl, _, hF6, hS6⟩
  replace hK6 : KSt W w6 S6 pd g kdD := hK6
  have HK6 := Lib.hid hK6
  clear hK6
  clear hd hK5 hA5 hA5' hF25 hF6 hS6 HK2
  go_upto_region 7 with (fail)
  go_cut [12, 13] from 36 (fun v12 v13 w5 => ∃ w3, w5 = w3 ∧ v12 = .int .u8 (tF q) ∧ v13 = .int .i64 (tK q) ∧ Hid (Frm (New w6) w6 w3))
  case first =>
    have hqq : q = 0 ∨ q = 1 ∨ q = 2 := by omega
    rcases hqq with rfl | rfl | rfl
    all_goals go_region
    all_goals go_wp2
    all_goals go_meet
    all_goals exact ⟨_, rfl, rfl, rfl, (((Frm.refl _ _).alloc Up.new _).alloc Up.new _).drewN _⟩
  case rest =>
    obtain ⟨w7, rfl, rfl, rfl, hF7⟩ := hcut
    rename World => w7
    have hK7 := HK6.out.fresh hF7.out
    have hlk := tLK q hq3
    have hb : tF q ≤ 255 ∧ 1 ≤ tK q ∧ tK q ≤ 8 := by rcases hlk with h | h | h <;> omega
    have hpl := pfx_length (tF q) (tK q) at_
    have hpos : 0 < (pfx (tF q) (tK q) at_).length := by unfold pfx; split <;> simp
    have HK7 := Lib.hid hK7
    have HLK := Lib.hid hlk
    clear hK7 hlk
    clear HK6 hF7
    go_wp2_with (fail)
    have hp : Calls Try.prog 39 #[.slice none 0 0, .int .u8 (tF q : Int), .int .i64 (tK q : Int), .int .u64 (at_ : Int)] w7 (RetA (New w7) w7 ([] ++ pfx (tF q) (tK q) at_)) := rprefix_nat (New w7) [] none 0 (tF q) (tK q) at_ w7 Up.new App.none_ (by simp) hb.1 hb.2.1 hb.2.2 (by omega)
    refine hp.mono ?_
    rintro e w8 ⟨A8, c8, rfl, hA8, hF8⟩
    rw [List.nil_append] at hA8 ⊢
    have hlow8 := hA8.lt (fun c => by have := congrArg List.length c; rw [bvs_length, List.length_nil] at this; omega)
    have hFb : Frm (New w8) w8 (w8.alloc (Obj.cells #[.string ⟨n.toArray⟩, .string ⟨v.toArray⟩] 30)) := (Frm.refl _ _).alloc Up.new _
    have hBx := Blk.new w8 30 #[.string ⟨n.toArray⟩, .string ⟨v.toArray⟩]
    have hA9 := (hA8.fresh hFb).less (b := w8.heap.size) (fun q hq e => by have := hlow8 q hq; omega)
    have hF79 : Frm (New w7) w7 (w8.alloc (Obj.cells #[.string ⟨n.toArray⟩, .string ⟨v.toArray⟩] 30)) := hF8.trans (hFb.mono (fun q hq => Nat.le_trans hF8.size hq))
    have hb8 : w7.heap.size ≤ w8.heap.size := hF8.size
    clear hp hA8 hF8 hFb hlow8
    have HBX := Lib.hid hBx
    have HA9 := Lib.hid hA9
    have HF79 := Lib.hid hF79
    clear hBx hA9 hF79
    go_upto_region 11 with (fail)
    generalize w8.alloc (Obj.cells #[.string ⟨n.toArray⟩, .string ⟨v.toArray⟩] 30) = w9 at *
    generalize hbx : w8.heap.size = bx at *
    have hu9 : Up (fun k => New w7 k ∧ k ≠ bx) w9 := fun k hk => ⟨by have := HF79.out.size; unfold New; omega, by have := HBX.out.lt; omega⟩
    have HBBX := Lib.hid hbx
    have HU9 := Lib.hid hu9
    clear hbx hu9
    go_upto_if 57 with (fail)
    go_cut [15] from 57 (fun v15 w5 => ∃ (w10 : World) (A10 : Option Addr) (c10 : Nat) (l : Bytes), w5 = w10 ∧ v15 = .slice A10 l.length c10 ∧ Hid (l = pfx (tF q) (tK q) at_ ++ (if at_ = 0 then strS coded n else [])) ∧ Hid (App (fun k => New w7 k ∧ k ≠ bx) w10 5 1 A10 l.length c10 (bvs l)) ∧ Hid (Frm (New w7) w7 w10) ∧ Hid (Blk w10 bx 30 #[.string ⟨(kdN at_ n).toArray⟩, .string ⟨v.toArray⟩]))
    case first =>
      have hB9 := HBX.out
      have hx0 := hB9.cell 0
      have hx1 := hB9.cell 1
      simp only [List.getElem?_toArray, List.getElem?_cons_zero, List.getElem?_cons_succ] at hx0 hx1
      have hz0 := hB9.frozen 0
      have hl9 := hB9.lt
      have HB9 := Lib.hid hB9
      clear hB9
      by_cases h0 : at_ = 0
      · subst h0
        rw [show ((0 : Nat) : Int) = 0 from rfl]
        have hl0 : Hid (pfx (tF q) (tK q) 0 ++ strS coded n = pfx (tF q) (tK q) 0 ++ (if (0 : Nat) = 0 then strS coded n else [])) := rfl
        go_wp2_with (fail)
        have hp := lstr_any (fun k => New w7 k ∧ k ≠ bx) (pfx (tF q) (tK q) 0) A8 c8 ⟨n.toArray⟩ coded w9 HU9.out HA9.out (by omega) (by omega)
        refine hp.mono ?_
        rintro e w10 ⟨A10, c10, rfl, hA10, hF10⟩
        go_wp2
        go_meet
        exact ⟨_, A10, c10, _, rfl, by simp, hl0, hA10, HF79.out.trans (hF10.mono (fun _ h => h.1)), HB9.out.keep hF10 (fun c => c.2 rfl)⟩
      · have h0' : ((at_ : Int) == 0) = false := by rw [beq_eq_false_iff_ne]; omega
        have hln : Hid (pfx (tF q) (tK q) at_ = pfx (tF q) (tK q) at_ ++ (if at_ = 0 then strS coded n else [])) := by show _ = _; rw [if_neg h0, List.append_nil]
        by_cases h61 : at_ ≤ 61
        · have hd : decide ((at_ : Int) ≤ 61) = true := decide_eq_true (by omega)
          have hlt : at_ - 1 < h2tab.length := by rw [h2len]; omega
          have hnm := tab_get hlt h0 h61 n
          have hw1 : IntKind.u64.wrap ((at_ : Int) - 1) = ((at_ - 1 : Nat) : Int) := by
            rw [show ((at_ : Int) - 1) = ((at_ - 1 : Nat) : Int) from by omega]; exact IntWalk.u64_in _ (by omega)
          have HNM := Lib.hid hnm
          clear hnm
          have t1 := trivial
          go_wp2_with (go_at_call 43
                       clear t1
                       refine (h2s_any _).mono ?_
                       rintro e w10 ⟨gs, rfl, hgs, hbs, hF10⟩
                       have hR : Rd w10 (some ⟨gs, 0, none⟩) (fvs h2tab) := by simpa using hbs.rd
                       obtain ⟨hc1, hc2⟩ := fld_cells hR (at_ - 1) hlt
                       simp only [str, Nat.zero_add] at hc1 hc2
                       rw [HNM.out] at hc1
                       have hgs2 := hbs.lt
                       have hB10 := HB9.out.fresh hF10
                       have hne : ¬ gs = bx := by omega
                       clear hx0 hx1 hz0 hl9 hR hbs hc2
                       have hx0 := hB10.cell 0
                       have hx1 := hB10.cell 1
                       simp only [List.getElem?_toArray, List.getElem?_cons_zero, List.getElem?_cons_succ] at hx0 hx1
                       have hz0 := hB10.frozen 0
                       have hl9 := hB10.lt
                       have HB10 := Lib.hid hB10
                       have HF10 := Lib.hid hF10
                       have HGS := Lib.hid hgs
                       clear hB10 hF10 hgs)
          go_meet
          have hFs : Frm (fun k => k = bx) w10 (w10.setCell ⟨bx, 0, none⟩ (.string ⟨(kdN at_ n).toArray⟩)) := (Frm.refl (fun k => k = bx) w10).setCell (p := ⟨bx, 0, none⟩) rfl _
          exact ⟨_, A8, c8, _, rfl, rfl, hln, (HA9.out.fresh HF10.out).keep hFs (fun k hk e => (HA9.out.inM k hk).2 e), (HF79.out.then_new Up.new HF10.out).trans (hFs.mono (fun k e => by rw [e]; exact hb8)), by have h9 := HB10.out.set_ 0 (.string ⟨(kdN at_ n).toArray⟩); simp at h9; exact h9⟩
        · have hd : decide ((at_ : Int) ≤ 61) = false := decide_eq_false (by omega)
          have hnm : kdN at_ n = [100] := by unfold kdN; rw [if_neg h0, if_neg h61]
          have HNM := Lib.hid hnm
          clear hnm
          go_wp2
          go_meet
          have hFs : Frm (fun k => k = bx) w9 (w9.setCell ⟨bx, 0, none⟩ (.string ⟨#[100]⟩)) := (Frm.refl (fun k => k = bx) w9).setCell (p := ⟨bx, 0, none⟩) rfl _
          exact ⟨_, A8, c8, _, rfl, rfl, hln, HA9.out.keep hFs (fun k hk e => (HA9.out.inM k hk).2 e), HF79.out.trans (hFs.mono (fun k e => by rw [e]; exact hb8)), by rw [HNM.out]; have h9 := HB9.out.set_ 0 (.string ⟨#[100]⟩); simp at h9; exact h9⟩
    case rest =>
      obtain ⟨w10, A10, c10, l, rfl, rfl, hl, hA10, hF10, hB10⟩ := hcut
      rename World => w10
      have hl10 := hB10.out.lt
      have hu10 : Up (fun k => New w7 k ∧ k ≠ bx) w10 := fun k hk => ⟨by have := hF10.out.size; unfold New; omega, by omega⟩
      have hll : l.length ≤ 1000 := by
        have h1 := strS_length coded n
        rw [hl.out, List.length_append]
        split
        · omega
        · simp only [List.length_nil]; omega
      have hlit : litB (tF q) (tK q) at_ n v coded = l ++ strS coded v := by
        rw [hl.out]
        unfold litB
        rw [List.append_assoc]
      obtain ⟨T, hrun, hTl⟩ := kd_run (f := tF q) (k := tK q) (i := at_) (n := n) (v := v) coded HLK.out hat6 hs
      rw [hlit] at hrun
      have hT2 : T.l.length = (if q = 0 then 2 else 1) := by
        rw [hTl]
        by_cases h : q = 0
        · rw [if_pos h, if_pos ((tF0 q).2 h)]
        · rw [if_neg h, if_neg (fun c => h ((tF0 q).1 c))]
      have hb8' : w7.heap.size ≤ bx := hb8
      clear HBX HA9 HF79 HU9 HBBX hlit hTl hb8
      have HRUN := Lib.hid hrun
      have HT2 := Lib.hid hT2
      have HU10 := Lib.hid hu10
      clear hrun hT2 hu10
      go_wp2_with (fail)
      refine (lstr_any (fun k => New w7 k ∧ k ≠ bx) l A10 c10 ⟨v.toArray⟩ coded w10 HU10.out hA10.out (by omega) (by omega)).mono ?_
      rintro e w11 ⟨A11, c11, rfl, hA11, hF11⟩
      rw [show (⟨v.toArray⟩ : ByteArray).data.toList = v from rfl] at hA11 ⊢
      have hB11 := hB10.out.keep hF11 (fun c => c.2 rfl)
      have hF711 := hF10.out.trans (hF11.mono (fun _ h => h.1))
      have hK11 := HK7.out.fresh hF711
      have hLl : (l ++ strS coded v).length ≤ 3000 := by
        have h1 := strS_length coded v
        rw [List.length_append]
        omega
      have hLp : bvs (l ++ strS coded v) ≠ [] := fun c => by
        have := congrArg List.length c
        have h1 : l.length ≠ 0 := by
          have := congrArg List.length hl.out
          rw [List.length_append] at this
          omega
        rw [bvs_length, List.length_append, List.length_nil] at this
        omega
      generalize l ++ strS coded v = L at *
      have hlt11 := hB11.lt
      have HB11 := Lib.hid hB11
      have HK11 := Lib.hid hK11
      have HA11 := Lib.hid hA11
      clear hB11 hK11 hA11
      clear hF11 hB10 hA10 hF10
      go_wp2_with (fail)
      refine (kdec HK11.out L A11 c11 HA11.out.rd HA11.out.cap (fun k hk => by
        have h1 := (HA11.out.inM k hk).1
        unfold New at h1
        have h2 := HK7.out.de.blk.lt
        exact ⟨by omega, fun c => by have := HK7.out.de.tab.low k c; omega, App.lt HA11.out hLp k hk⟩) (by omega) (fun _ => by show 1 + _ ≤ _; omega)).mono ?_
      rintro e w12 hres
      rw [HRUN.out] at hres
      obtain ⟨S12, A12, c12, hK12, rfl, hA12, hF12, _⟩ := hres
      replace hA12 := hA12 (by simp)
      have hB12 := HB11.out.keep hF12 (fun c => by
        have h2 := HK7.out.de.blk.lt
        rcases c with c | c | c
        · omega
        · have := HK7.out.de.tab.low bx c; omega
        · omega)
      have hx0 := hB12.cell 0
      have hx1 := hB12.cell 1
      simp only [List.getElem?_toArray, List.getElem?_cons_zero, List.getElem?_cons_succ] at hx0 hx1
      have hl12 := hB12.lt
      have hTb : ∀ w', Frm (New w12) w12 w' → Calls Try.prog 44 #[.pointer (some ⟨pd, 0, none⟩)] w' fun e w2 => e = .returned (.pointer (some ⟨g, 0, none⟩)) ∧ w2 = w' := fun w' f => htable_any w' (hK12.de.fresh f)
      obtain ⟨At, cA, ta, tb, ew, en, hT⟩ := hK12.de.tab
      have hLn : ∀ w', Frm (New w12) w12 w' → Calls Try.prog 23 #[.pointer (some ⟨g, 0, none⟩)] w' fun e w2 => e = .returned (.int .i64 (T.l.length : Nat)) ∧ w2 = w' := fun w' f => tlen_any w' (hT.fresh f)
      rw [HT2.out] at hLn
      have hlen1 : ([(kdN at_ n, v)] : List Fld).length = 1 := rfl
      clear hT hF12 HB11 HK11 HA11 HRUN HT2
      have HK12 := Lib.hid hK12
      have HA12 := Lib.hid hA12
      have HB12 := Lib.hid hB12
      have HTB := Lib.hid hTb
      have HLN := Lib.hid hLn
      clear hK12 hA12 hB12 hTb hLn
      generalize kdN at_ n = m at *
      by_cases hq0 : q = 0
      · subst hq0
        rw [if_pos rfl] at HLN
        go_wp2_with (first
          | (go_at_call 31
             refine (fields_eq [(m, v)] _ _ _ 1 _ (HA12.out.rd.fresh ((Frm.refl _ _).alloc Up.new _)) (Rd.new _ (fvs [(m, v)]).toArray _) (by simp)).mono ?_
             rintro e w13 ⟨rfl, n13, hw13⟩
             rw [hw13]
             clear hw13)
          | (go_at_call 44; refine (HTB.out _ (((Frm.refl _ _).alloc Up.new _).drewN _)).mono ?_; rintro e w14 ⟨rfl, hw14⟩; rw [hw14]; clear hw14 w14)
          | (go_at_call 23; refine (HLN.out _ (((Frm.refl _ _).alloc Up.new _).drewN _)).mono ?_; rintro e w14 ⟨rfl, hw14⟩; rw [hw14]; clear hw14 w14))
        go_ret
        exact ⟨rfl, (HK12.out.frm.then_new Up.new (((Frm.refl _ _).alloc Up.new _).drewN _)).below⟩
      · rw [if_neg hq0] at HLN
        have hq0' : ((q : Int) == 0) = false := by rw [beq_eq_false_iff_ne]; omega
        go_wp2_with (first
          | (go_at_call 31
             refine (fields_eq [(m, v)] _ _ _ 1 _ (HA12.out.rd.fresh ((Frm.refl _ _).alloc Up.new _)) (Rd.new _ (fvs [(m, v)]).toArray _) (by simp)).mono ?_
             rintro e w13 ⟨rfl, n13, hw13⟩
             rw [hw13]
             clear hw13)
          | (go_at_call 44; refine (HTB.out _ (((Frm.refl _ _).alloc Up.new _).drewN _)).mono ?_; rintro e w14 ⟨rfl, hw14⟩; rw [hw14]; clear hw14 w14)
          | (go_at_call 23; refine (HLN.out _ (((Frm.refl _ _).alloc Up.new _).drewN _)).mono ?_; rintro e w14 ⟨rfl, hw14⟩; rw [hw14]; clear hw14 w14))
        go_ret
        exact ⟨rfl, (HK12.out.frm.then_new Up.new (((Frm.refl _ _).alloc Up.new _).drewN _)).below⟩
end Go.Proofs.Ytcebckkpablagaa.M
