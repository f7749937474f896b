/- SemLimits: the walk. No condition. -/
import Derived.BigQuiet
import Derived.Deep.CutBlock
import Derived.Lib.Hide
import Derived.IntWalk
import Derived.Test.YtpojejdddgdjdaaDoorSkn
import Derived.Test.YtpojejdddgdjdaaDoorSro
import Derived.Test.YtpojejdddgdjdaaDoorSlm
import Derived.Test.YtpojejdddgdjdaaDoorReg
import Derived.Test.YtpojejdddgdjdaaDoorCut
import Derived.Test.YtpojejdddgdjdaaDoorStr
namespace Go.Proofs.YtpojejdddgdjdaaDoor.M
open Go.ChangeShapes Go.WideShapes Go.ChangeAt Go.RowKit

theorem dset (k i : Nat) (h : i < k) : (bvs (List.replicate i 46 ++ List.replicate (k - i) 0)).toArray.setIfInBounds i (.int .u8 46) = (bvs (List.replicate (i + 1) 46 ++ List.replicate (k - (i + 1)) 0)).toArray := by
  have e : k - i = (k - (i + 1)) + 1 := by omega
  have e2 : (bvs (List.replicate i 46 ++ List.replicate (k - i) 0)).set i (bv 46) = bvs (List.replicate (i + 1) 46 ++ List.replicate (k - (i + 1)) 0) := by
    unfold bvs
    rw [← List.map_set, e, List.replicate_succ, List.set_append_right _ _ (by rw [List.length_replicate]; omega), List.length_replicate, Nat.sub_self, List.set_cons_zero, List.replicate_succ', List.append_assoc]
    rfl
  rw [List.setIfInBounds_toArray]
  exact congrArg List.toArray e2
theorem dget (k i : Nat) (h : i < k) : (bvs (List.replicate i 46 ++ List.replicate (k - i) 0)).toArray[i]? = some (.int .u8 0) := by
  have e : k - i = (k - (i + 1)) + 1 := by omega
  rw [e, List.replicate_succ]
  simp [bvs, bv]
set_option maxRecDepth 100000 in
set_option maxHeartbeats 4000000 in
theorem dots_any (k : Nat) (hk : k ≤ 5000) (w : World) : Calls Tryd.prog 20 #[.int .i64 (k : Int)] w fun e w' => ∃ g, e = .returned (.slice (some ⟨g, 0, none⟩) k k) ∧ Blk w' g 5 (bvs (List.replicate k 46)).toArray ∧ w.heap.size ≤ g ∧ Frm (New w) w w' := by
  obtain ⟨ui, hui, huz, hus, hub⟩ := u8_info
  have hC : madeCells (Value.int .u8 0).cells (k * ui.size) = (bvs (List.replicate 0 46 ++ List.replicate (k - 0) 0)).toArray := by rw [hus]; exact made_u8 k
  have HC := Lib.hid hC
  clear hC
  go_enter Tryd.func20, Tryd.ntmps20
  go_upto_region 2 with (refine wpList_make rfl Tryd.underlying23 hui huz rfl (m := k) rfl rfl (by rw [hub]; omega) (by unfold maxLen; omega) ?_; intro w3 hb3 hF3 hs3; rw [HC.out] at hb3)
  obtain ⟨g, hg⟩ : ∃ g, g = w.heap.size := ⟨_, rfl⟩
  rw [← hg] at hb3 ⊢
  have hgw : w.heap.size ≤ g := by omega
  clear hg hs3
  have HB3 := Lib.hid hb3
  have HF3 := Lib.hid hF3
  clear hb3 hF3
  go_upto_region 3 with (fail)
  go_loopw [4] (fun v4 wr => ∃ i : Nat, i ≤ k ∧ v4 = .int .i64 i ∧ Hid (Blk wr g 5 (bvs (List.replicate i 46 ++ List.replicate (k - i) 0)).toArray) ∧ Hid (Frm (New w) w wr)) (fun v4 _ => k - (intOf v4).toNat)
  case atStart => exact ⟨0, by omega, rfl, HB3, HF3⟩
  case round =>
    obtain ⟨i, hi, rfl, hB, hF⟩ := hrel
    rename World => wr
    by_cases hik : i < k
    · have hce := hB.out.cell i
      rw [dget k i hik] at hce
      have hfz := hB.out.frozen i
      have hlt := hB.out.lt
      have hB2 : Hid (Blk (wr.setCell ⟨g, i, none⟩ (.int .u8 46)) g 5 (bvs (List.replicate (i + 1) 46 ++ List.replicate (k - (i + 1)) 0)).toArray) := by
        have h := hB.out.set_ i (.int .u8 46)
        rw [dset k i hik] at h
        exact Lib.hid h
      have hF2 : Hid (Frm (New w) w (wr.setCell ⟨g, i, none⟩ (.int .u8 46))) := Lib.hid (hF.out.trans (Frm.setCell (M := New w) (Frm.refl _ wr) (p := ⟨g, i, none⟩) hgw _))
      clear hB hF
      go_wp2_with (fail)
      go_roundw
      case rel => exact ⟨i + 1, by omega, by go_num, hB2, hF2⟩
      case measure => simp [intOf]; omega
    · obtain rfl : i = k := by omega
      have hB2 := hB.out
      rw [Nat.sub_self, List.replicate_zero, List.append_nil] at hB2
      have HB2 := Lib.hid hB2
      clear hB2
      clear hB
      go_wp2_with (fail)
      go_ret
      exact ⟨g, rfl, HB2.out, hgw, hF.out⟩
theorem App.setC {M : Nat → Prop} {w : World} {e size n c : Nat} {A : Option Addr} {xs : List Value} (h : App M w e size A n c xs) (j : Nat) (hj : j < xs.length) :
    ∃ g off, A = some ⟨g, off, none⟩ ∧ w.cell? ⟨g, off + j, none⟩ = some xs[j] ∧ w.frozen? ⟨g, off + j, none⟩ = false ∧ M g ∧ g < w.heap.size ∧
      ∀ u : Value, App M (w.setCell ⟨g, off + j, none⟩ u) e size A n c (xs.set j u) := by
  have hl := h.len
  have hcap := h.cap
  have hn : 0 < n := by
    rcases Nat.eq_zero_or_pos n with h0 | h0
    · rw [h0, Nat.zero_mul] at hl; omega
    · exact h0
  obtain ⟨g, off, cur, rfl, hb, hsz, hM⟩ := h.own (by omega)
  have hB : Blk w g e cur := hb
  obtain ⟨g2, off2, e2, hc⟩ := h.rd j xs[j] (List.getElem?_eq_getElem hj)
  simp only [Option.some.injEq, Addr.mk.injEq] at e2
  obtain ⟨rfl, rfl, _⟩ := e2
  refine ⟨g, off, rfl, hc, hB.frozen _, hM, hB.lt, fun u => ?_⟩
  have hS := hB.set_ (off + j) u
  refine ⟨by rw [List.length_set]; exact hl, h.cap, h.max, h.nil_, ?_, h.inM, fun hn => ⟨g, off, _, rfl, hS, by simpa using hsz, hM⟩⟩
  intro i v hv
  refine ⟨g, off, rfl, ?_⟩
  rw [hS.cell]
  have hcs : off + j < cur.size := by
    have h1 := hB.cell (off + j)
    rw [hc] at h1
    exact (Array.getElem?_eq_some_iff.1 h1.symm).1
  by_cases hij : i = j
  · subst hij
    rw [List.getElem?_set_self hj] at hv
    rw [Array.getElem?_setIfInBounds, if_pos rfl, if_pos hcs]
    exact hv
  · rw [List.getElem?_set_ne (fun c => hij c.symm)] at hv
    rw [Array.getElem?_setIfInBounds, if_neg (by omega)]
    obtain ⟨g3, off3, e3, hc3⟩ := h.rd i v hv
    simp only [Option.some.injEq, Addr.mk.injEq] at e3
    obtain ⟨rfl, rfl, _⟩ := e3
    rw [← hB.cell]
    exact hc3
def LimOk (d : Int) (R : List Fld) (b : Bytes) (ts : List Fld) : Prop := R.length ≤ 70 ∧ b.length ≤ 9000 ∧ ts.length ≤ 70 ∧ fsizes R ≤ 10000 ∧ fsizes ts ≤ 10000 ∧ ∀ (bad : Bool) (m : MV), m.fs = (if bad then base3b else base3) ++ R → m.b = b → m.ts = ts → lrgM m = decide (0 < d) ∧ rcls m = if 0 < d then 2 else if bad then 1 else 0
theorem limOk0 (d : Int) (h1 : -2 ≤ d) (h2 : d ≤ 2) (k : Nat) (hk : (k : Int) = 61 + d) : LimOk d (List.replicate k fA) [] [] := by
  refine ⟨by rw [List.length_replicate]; omega, Nat.zero_le _, Nat.zero_le _, by rw [fsizes_rep, show fsize fA = 33 from rfl]; omega, Nat.zero_le _, fun bad m e1 e2 e3 => ?_⟩
  obtain ⟨a, b⟩ := lim0 m bad k (by omega) e1 e2 e3
  have e : 61 < k ↔ 0 < d := by omega
  refine ⟨by rw [a]; exact decide_eq_decide.2 e, ?_⟩
  rw [b]
  by_cases h : 0 < d
  · rw [if_pos h, if_pos (e.2 h)]
  · rw [if_neg h, if_neg (fun c => h (e.1 c))]
theorem limOk1 (d : Int) (h1 : -2 ≤ d) (h2 : d ≤ 2) (k : Nat) (hk : (k : Int) = 3938 + d) : LimOk d [fD k] [] [] := by
  have hz : fsizes [fD k] = 33 + k := by
    show 1 + (List.replicate k (46 : UInt8)).length + 32 + 0 = 33 + k
    rw [List.length_replicate]; omega
  refine ⟨by simp, Nat.zero_le _, Nat.zero_le _, by rw [hz]; omega, Nat.zero_le _, fun bad m e1 e2 e3 => ?_⟩
  obtain ⟨a, b⟩ := lim1 m bad k (by omega) e1 e2 e3
  have e : 3938 < k ↔ 0 < d := by omega
  refine ⟨by rw [a]; exact decide_eq_decide.2 e, ?_⟩
  rw [b]
  by_cases h : 0 < d
  · rw [if_pos h, if_pos (e.2 h)]
  · rw [if_neg h, if_neg (fun c => h (e.1 c))]
theorem limOk2 (d : Int) (h1 : -2 ≤ d) (h2 : d ≤ 2) (b : Bytes) (hk : (b.length : Int) = 8192 + d) : LimOk d [] b [] := by
  refine ⟨Nat.zero_le _, by omega, Nat.zero_le _, Nat.zero_le _, Nat.zero_le _, fun bad m e1 e2 e3 => ?_⟩
  obtain ⟨a, c⟩ := lim2 m bad (by rw [e1, List.append_nil]) e3
  rw [e2] at a c
  have e : 8192 < b.length ↔ 0 < d := by omega
  refine ⟨by rw [a]; exact decide_eq_decide.2 e, ?_⟩
  rw [c]
  by_cases h : 0 < d
  · rw [if_pos h, if_pos (e.2 h)]
  · rw [if_neg h, if_neg (fun c => h (e.1 c))]
theorem limOk3 (d : Int) (h1 : -2 ≤ d) (h2 : d ≤ 2) (k : Nat) (hk : (k : Int) = 64 + d) : LimOk d [] [] (List.replicate k fT) := by
  refine ⟨Nat.zero_le _, Nat.zero_le _, by rw [List.length_replicate]; omega, Nat.zero_le _, by rw [fsizes_rep, show fsize fT = 33 from rfl]; omega, fun bad m e1 e2 e3 => ?_⟩
  obtain ⟨a, b⟩ := lim3 m bad k (by omega) (by rw [e1, List.append_nil]) e2 e3
  have e : 64 < k ↔ 0 < d := by omega
  refine ⟨by rw [a]; exact decide_eq_decide.2 e, ?_⟩
  rw [b]
  by_cases h : 0 < d
  · rw [if_pos h, if_pos (e.2 h)]
  · rw [if_neg h, if_neg (fun c => h (e.1 c))]
theorem zMsg8 : (Tryd.prog.info? 25).map (·.zero) = some (some (.agg #[.slice none 0 0, .slice none 0 0, .slice none 0 0])) := by kernel_rfl
theorem msg_one8 (A1 A2 A3 : Option Addr) (n1 n2 n3 c1 c2 c3 : Nat) : ∀ u ∈ #[Value.slice A1 n1 c1, Value.slice A2 n2 c2, Value.slice A3 n3 c3].toList, u.oneCell' = true := fun u hu => by
  simp only [List.mem_cons, List.not_mem_nil, or_false] at hu
  rcases hu with rfl | rfl | rfl <;> rfl
def b3A : Array Value := (fvs base3).toArray
set_option maxRecDepth 100000 in
set_option maxHeartbeats 4000000 in
theorem limits_walk (wh n : Int) (bad : Bool) (W : World) (hwh : (Lit.int .u8 wh).wf = true) (hn : (Lit.int .u8 n).wf = true) :
    Calls Tryd.prog 5 #[.int .u8 wh, .int .u8 n, .bool bad] W fun e w' => e = .returned (.bool true) ∧ Below W.heap.size W w' := by
  have hn2 : 0 ≤ n ∧ n ≤ 255 := by simp only [Lit.wf, decide_eq_true_eq, Bool.and_eq_true] at hn; exact hn
  have hw2 : 0 ≤ wh ∧ wh ≤ 255 := by simp only [Lit.wf, decide_eq_true_eq, Bool.and_eq_true] at hwh; exact hwh
  clear hn hwh
  obtain ⟨n0, n1⟩ := hn2
  obtain ⟨x0, x1⟩ := hw2
  have hk := known_any W
  have hfr : ∀ (w : World) t cs, Frm (New w) w (w.alloc (.cells cs t)) := fun w t cs => (Frm.refl _ w).alloc Up.new _
  have hn5 : 0 ≤ n % 5 ∧ n % 5 ≤ 4 := by omega
  have hx4 : 0 ≤ wh % 4 ∧ wh % 4 ≤ 3 := by omega
  have HK := Lib.hid hk
  have HFR := Lib.hid hfr
  clear hk hfr
  go_enter Tryd.func5, Tryd.ntmps5
  go_upto_region 3 with (go_at_call 11; refine HK.out.mono ?_; rintro e w1 ⟨rfl, hF1⟩)
  clear HK
  go_upto_region 4 with (fail)
  generalize n % 5 = n5 at *
  obtain ⟨d, hd⟩ : ∃ d : Int, d = n5 - 2 := ⟨_, rfl⟩
  have hd1 : -2 ≤ d := by omega
  have hd2 : d ≤ 2 := by omega
  rw [← hd]
  clear hd
  go_upto_region 5 with (fail)
  have hb2 := Blk.new w1 34 b3A
  have hF12 := HFR.out w1 34 b3A
  have hpf : b3A = #[.string ⟨#[58, 109, 101, 116, 104, 111, 100]⟩, .string ⟨#[80, 85, 84]⟩, .string ⟨#[58, 115, 99, 104, 101, 109, 101]⟩, .string ⟨#[104, 116, 116, 112, 115]⟩, .string ⟨#[58, 112, 97, 116, 104]⟩, .string ⟨#[47, 120]⟩] := rfl
  rw [← hpf]
  obtain ⟨gA, hgA⟩ : ∃ gA, gA = w1.heap.size := ⟨_, rfl⟩
  rw [← hgA] at hb2 ⊢
  generalize w1.alloc (.cells b3A 34) = w2 at *
  have hgAl := hb2.lt
  have hgA1 : w1.heap.size ≤ gA := by omega
  clear hgA hpf
  have HB2 := Lib.hid hb2
  have HF12 := Lib.hid hF12
  clear hb2 hF12
  go_upto_block 0 with (first
    | (refine wpList_new rfl rfl zMsg8 rfl ?_; intro w3 hb3 hF3 hs3)
    | (refine wpList_store_agg rfl rfl rfl rfl hb3 rfl (msg_one8 _ _ _ _ _ _ _ _ _) (by kernel_rfl) ?_; intro w5 hb5 hF5 hs5))
  obtain ⟨gM, hgM⟩ : ∃ gM, gM = w2.heap.size := ⟨_, rfl⟩
  rw [← hgM] at hb5 hb3 hF5 ⊢
  have hgAM : gA < gM := by omega
  have hF25 : Frm (New w2) w2 w5 := hF3.trans (hF5.mono (fun q hq => by subst hq; unfold New; omega))
  have hbA := HB2.out.fresh hF25
  have hF15 := HF12.out.then_new Up.new hF25
  have hF05 := hF1.then_new Up.new hF15
  have hgMl := hb5.lt
  have hgAl2 := hbA.lt
  have hF1s := hF1.size
  have hgAW : W.heap.size ≤ gA := by omega
  have hUp : Up (fun q => q = gA ∨ New w5 q) w5 := fun q hq => .inr hq
  have hAp0 : App (fun q => q = gA ∨ New w5 q) w5 34 2 (some ⟨gA, 0, none⟩) 3 3 (fvs base3) := App.full (by have h := hbA.rd; unfold b3A at h; rw [List.toList_toArray] at h; exact h) rfl (by decide) (fun c => by cases c) (fun k hk => by cases hk; exact .inl rfl) (fun _ => ⟨gA, 0, _, rfl, hbA, by decide, .inl rfl⟩)
  clear hgM hb3 hF3 hs3 hF5 hs5 HB2 HF12 hF25
  have HB5 := Lib.hid hb5
  have HBA := Lib.hid hbA
  have HF05 := Lib.hid hF05
  have HF1 := Lib.hid hF1
  have HUP := Lib.hid hUp
  have HAP0 := Lib.hid hAp0
  clear hb5 hbA hF05 hF1 hUp hAp0
  generalize wh % 4 = x4 at *
  go_cut [] from 10 to 75 (fun w' => ∃ (A1 : Option Addr) (c1 : Nat) (R : List Fld) (A2 : Option Addr) (c2 : Nat) (b : Bytes) (A3 : Option Addr) (c3 : Nat) (ts : List Fld), Hid (Blk w' gM 25 #[.slice A1 (3 + R.length) c1, .slice A2 b.length c2, .slice A3 ts.length c3]) ∧ Hid (Rd w' A1 (fvs (base3 ++ R))) ∧ Hid (Rd w' A2 (bvs b)) ∧ Hid (Rd w' A3 (fvs ts)) ∧ Hid (Frm (New W) W w') ∧ Hid (LimOk d R b ts) ∧ gM < w'.heap.size ∧ Hid (bvs b ≠ [] → Far (fun q => q = gM) A2) ∧ Hid (fvs ts ≠ [] → Far (fun q => q = gM) A3))
  case first =>
    by_cases hx : x4 = 0
    · subst hx
      obtain ⟨k, hk⟩ : ∃ k : Nat, (k : Int) = 64 + d := ⟨(64 + d).toNat, by omega⟩
      go_upto_region 10 with (fail)
      go_loopg [] k (fun kk wx => ∃ (m : Nat) (A : Option Addr) (c : Nat), m + kk = k + 3 ∧ m ≤ k ∧ 3 ≤ m ∧ Hid (Blk wx gM 25 #[.slice A m c, .slice none 0 0, .slice none 0 0]) ∧ Hid (App (fun q => q = gA ∨ New w5 q) wx 34 2 A m c (fvs (base3 ++ List.replicate (m - 3) fA))) ∧ Hid (Frm (fun q => q = gM ∨ (q = gA ∨ New w5 q)) w5 wx))
      case atStart => exact ⟨3, _, 3, by omega, by omega, by omega, HB5, HAP0, Lib.hid (Frm.refl _ _)⟩
      case round =>
        obtain ⟨m, A, c, hmk, hmk3, hm3, hM, hA, hF⟩ := hrel
        rename World => wr
        have hMc := hM.out.cell 0
        simp only [List.getElem?_toArray, List.getElem?_cons_zero] at hMc
        have hMl := hM.out.lt
        by_cases hmk2 : m < k
        · have hlt : (m : Int) < 64 + d := by omega
          have hUr : Up (fun q => q = gA ∨ New w5 q) wr := HUP.out.frm hF.out
          have hrep : fvs (base3 ++ List.replicate (m - 3) fA) ++ [.string ⟨#[97]⟩, .string ⟨#[]⟩] = fvs (base3 ++ List.replicate (m + 1 - 3) fA) := by
            rw [show m + 1 - 3 = (m - 3) + 1 by omega, List.replicate_succ', ← List.append_assoc, fvs_append (base3 ++ _)]
            rfl
          have HREP := Lib.hid hrep
          have HUR := Lib.hid hUr
          clear hrep hUr
          go_wp2_with (at_builtin; refine wpList_append_lit flds rfl rfl rfl hA.out HUR.out rfl rfl (fld_one _ _) (by omega) ?_; intro A9 c9 w9 hA9 hF9 _ _; have hM9 := hM.out.keep hF9 (fun hh => by rcases hh with hh | hh; exact absurd hh (by omega); unfold New at hh; omega); have hy9 := hM9.cell 0; simp only [List.getElem?_toArray, List.getElem?_cons_zero] at hy9; have hz9 := hM9.frozen 0; have hl9 := hM9.lt; have HA9 := Lib.hid hA9; have HF9 := Lib.hid hF9; have HM9 := Lib.hid hM9; clear hA9 hF9 hM9)
          have hset : Frm (fun q => q = gM) w9 (w9.setCell ⟨gM, 0, none⟩ (.slice A9 (m + 1) c9)) := Frm.setCell (M := fun q => q = gM) (Frm.refl _ w9) (p := ⟨gM, 0, none⟩) rfl _
          have hM7 := HM9.out.set_ 0 (.slice A9 (m + 1) c9)
          simp only [List.setIfInBounds_toArray, List.set_cons_zero] at hM7
          have hA7 := HA9.out.keep hset (fun q hq e => by have := HA9.out.inM q hq; unfold New at this; omega)
          have hF7 : Frm (fun q => q = gM ∨ (q = gA ∨ New w5 q)) w5 (w9.setCell ⟨gM, 0, none⟩ (.slice A9 (m + 1) c9)) := (hF.out.trans (HF9.out.mono (fun q hq => .inr hq))).trans (hset.mono (fun q hq => .inl hq))
          rw [HREP.out] at hA7
          have HM7 := Lib.hid hM7
          have HA7 := Lib.hid hA7
          have HF7 := Lib.hid hF7
          clear hM7 hA7 hF7
          clear HA9 HF9 HM9 hset hy9 hz9
          go_roundg (gk - 1)
          case measure => omega
          case rel => exact ⟨m + 1, A9, c9, by omega, by omega, by omega, HM7, HA7, HF7⟩
        · have hlt : ¬ (m : Int) < 64 + d := by omega
          obtain rfl : m = k := by omega
          go_wp2_with (fail)
          go_meet
          have hFW : Frm (New W) W wr := HF05.out.trans (hF.out.mono (fun q hq => by have := HF05.out.size; unfold New at hq ⊢; omega))
          have hlen : m = 3 + (List.replicate (m - 3) fA).length := by rw [List.length_replicate]; omega
          refine ⟨A, c, List.replicate (m - 3) fA, none, 0, [], none, 0, [], ?_, Lib.hid hA.out.rd, Lib.hid Rd.nil, Lib.hid Rd.nil, Lib.hid hFW, Lib.hid (limOk0 d hd1 hd2 (m - 3) (by omega)), hMl, Lib.hid (fun h => absurd rfl h), Lib.hid (fun h => absurd rfl h)⟩
          rw [← hlen]
          exact hM
    by_cases hx1 : x4 = 1
    · subst hx1
      obtain ⟨k, hk⟩ : ∃ k : Nat, (k : Int) = 3938 + d := ⟨(3938 + d).toNat, by omega⟩
      go_upto_region 14 with (fail)
      have hkk : 4096 + d - 96 - 29 - 33 = (k : Int) := by omega
      rw [hkk]
      clear hkk
      have hdc : ∀ w', Calls Tryd.prog 20 #[.int .i64 (k : Int)] w' fun e w2 => ∃ g, e = .returned (.slice (some ⟨g, 0, none⟩) k k) ∧ Blk w2 g 5 (bvs (List.replicate k 46)).toArray ∧ w'.heap.size ≤ g ∧ Frm (New w') w' w2 := fun w' => dots_any k (by omega) w'
      have hbl46 : (List.replicate k (46 : UInt8)).length = k := List.length_replicate
      have HDC := Lib.hid hdc
      have HKK := Lib.hid hk
      clear hdc hk
      refine wp_region_til (by kernel_rfl) (fun _ => True) 9 ?_
      have hS0 : True := trivial
      refine wpAnyT_take (i := 0) (v := ?_) (d := some 61) rfl (by rfl) (by kernel_rfl) (fun _ _ _ h => h) (by rfl) hS0 (fun w hSw => ?_) ?_
      rotate_left
      · (try dsimp only at hSw); go_simp; first | done | (with_reducible rfl)
      simp only [Act.put, List.setIfInBounds_toArray, List.set_cons_zero, List.set_cons_succ]
      refine wpAnyT_take (i := 1) (v := ?_) (d := some 62) rfl (by rfl) (by kernel_rfl) (fun _ _ _ h => h) (by rfl) hS0 (fun w hSw => ?_) ?_
      rotate_left
      · (try dsimp only at hSw); go_simp; first | done | (with_reducible rfl)
      simp only [Act.put, List.setIfInBounds_toArray, List.set_cons_zero, List.set_cons_succ]
      refine wpAnyT_take (i := 2) (v := ?_) (d := some 63) rfl (by rfl) (by kernel_rfl) (fun _ _ _ h => h) (by rfl) hS0 (fun w hSw => ?_) ?_
      rotate_left
      · (try dsimp only at hSw); go_simp; first | done | (with_reducible rfl)
      simp only [Act.put, List.setIfInBounds_toArray, List.set_cons_zero, List.set_cons_succ]
      refine wpAnyT_one (i := 3) rfl (by kernel_rfl) (fun K hK => ?_)
      refine Eq.mpr (if_pos (by rfl)) ?_
      go_wp2_with (fail)
      refine (HDC.out _).mono ?_
      rintro e w6 ⟨gD, rfl, hbD, hgD, hF6⟩
      have hF56 : Frm (New w5) w5 w6 := ((Frm.refl (New w5) w5).drew).trans hF6
      have hRD : Rd w6 (some ⟨gD, 0, none⟩) (bvs (List.replicate k 46)) := by
        have h := hbD.rd
        rw [List.toList_toArray] at h
        exact h
      have hcv := run_conv (c := k) hRD
      rw [hbl46] at hcv
      simp only [str] at hcv
      have HF56 := Lib.hid hF56
      clear hRD hF6 hbD hF56
      refine hK.out _ _ (.inr trivial) ?_
      clear hK K
      try simp only [Act.put, List.setIfInBounds_toArray, List.set_cons_zero, List.set_cons_succ]
      obtain ⟨D, hD⟩ : ∃ D, D = List.replicate k (46 : UInt8) := ⟨_, rfl⟩
      rw [← hD] at hcv
      have HD := Lib.hid hD
      clear hD
      refine wpAnyT_one (i := 4) rfl (by kernel_rfl) (fun K hK => ?_)
      go_simp
      refine hK.out _ _ (.inr (trivial)) ?_
      clear hK K
      refine wpAnyT_one (i := 5) rfl (by kernel_rfl) (fun K hK => ?_)
      go_simp
      refine hK.out _ _ (.inr (trivial)) ?_
      clear hK K
      refine wpAnyT_one (i := 6) rfl (by kernel_rfl) (fun K hK => ?_)
      go_simp
      refine hK.out _ _ (.inr (trivial)) ?_
      clear hK K
      have hF7 : Frm (New w5) w5 (w6.alloc (.cells #[.string ⟨#[97]⟩, .string ⟨D.toArray⟩] 34)) := HF56.out.alloc Up.new _
      have hlitR : Rd (w6.alloc (.cells #[.string ⟨#[97]⟩, .string ⟨D.toArray⟩] 34)) (some ⟨w6.heap.size, 0, none⟩) [.string ⟨#[97]⟩, .string ⟨D.toArray⟩] := (Rd.new w6 #[.string ⟨#[97]⟩, .string ⟨D.toArray⟩] 34)
      have hUr : Up (fun q => q = gA ∨ New w5 q) (w6.alloc (.cells #[.string ⟨#[97]⟩, .string ⟨D.toArray⟩] 34)) := Up.frm (M' := New w5) HUP.out hF7
      refine wpAnyT_one (i := 7) rfl (by kernel_rfl) (fun K hK => ?_)
      (refine step_append2 (M := fun q => q = gA ∨ New w5 q) (A := some ⟨gA, 0, none⟩) (n := 3) (c := 3) (xs := fvs base3) (news := [.string ⟨#[97]⟩, .string ⟨D.toArray⟩]) flds rfl rfl rfl (HAP0.out.fresh hF7) hUr rfl hlitR rfl (fld_one _ _) (by decide) ?_; intro A9 c9 w9 hA9 hF9 _ _)
      refine hK.out _ _ (.inr (trivial)) ?_
      clear hK K
      have hF59 : Frm (fun q => q = gA ∨ New w5 q) w5 w9 := (hF7.mono (fun q hq => .inr hq)).trans hF9
      have hM9 := HB5.out.keep hF59 (fun hh => by rcases hh with hh | hh; exact absurd hh (by omega); unfold New at hh; omega)
      have hy9 := hM9.cell 0
      simp only [List.getElem?_toArray, List.getElem?_cons_zero] at hy9
      have hz9 := hM9.frozen 0
      have hl9 := hM9.lt
      have HA9 := Lib.hid hA9
      have HF59 := Lib.hid hF59
      have HM9 := Lib.hid hM9
      clear hA9 hF9 hM9 hF59 hlitR hUr hF7
      refine wpAnyT_one (i := 8) rfl (by kernel_rfl) (fun K hK => ?_)
      go_simp
      refine hK.out _ _ (.inr (trivial)) ?_
      clear hK K
      refine wpAnyT_one (i := 9) rfl (by kernel_rfl) (fun K hK => ?_)
      go_simp
      refine hK.out _ _ (.inl (by kernel_rfl)) ?_
      clear hK K
      refine wpAnyT_done (by kernel_rfl) ?_ _
      have hset : Frm (fun q => q = gM) w9 (w9.setCell ⟨gM, 0, none⟩ (.slice A9 (3 + 1) c9)) := Frm.setCell (M := fun q => q = gM) (Frm.refl _ w9) (p := ⟨gM, 0, none⟩) rfl _
      have hM7 := HM9.out.set_ 0 (.slice A9 (3 + 1) c9)
      simp only [List.setIfInBounds_toArray, List.set_cons_zero] at hM7
      have hA7 := HA9.out.keep hset (fun q hq e => by have := HA9.out.inM q hq; unfold New at this; omega)
      have hFW : Frm (New W) W (w9.setCell ⟨gM, 0, none⟩ (.slice A9 (3 + 1) c9)) := (HF05.out.trans (HF59.out.mono (fun q hq => by have := HF05.out.size; unfold New at hq ⊢; omega))).trans (hset.mono (fun q hq => by subst hq; unfold New; omega))
      have hl7 : gM < (w9.setCell ⟨gM, 0, none⟩ (.slice A9 (3 + 1) c9)).heap.size := hM7.lt
      have hrf : fvs base3 ++ [.string ⟨#[97]⟩, .string ⟨D.toArray⟩] = fvs (base3 ++ [fD k]) := by rw [fvs_append, HD.out]; rfl
      rw [hrf] at hA7
      have HM7 := Lib.hid hM7
      have HA7 := Lib.hid hA7
      have HFW := Lib.hid hFW
      clear hM7 hA7 hFW
      clear HA9 HF59 HM9 hset hy9 hz9 hcv hl9 hrf
      go_wp2_with (fail)
      go_meet
      exact ⟨A9, c9, [fD k], none, 0, [], none, 0, [], HM7, Lib.hid HA7.out.rd, Lib.hid Rd.nil, Lib.hid Rd.nil, HFW, Lib.hid (limOk1 d hd1 hd2 k HKK.out), hl7, Lib.hid (fun h => absurd rfl h), Lib.hid (fun h => absurd rfl h)⟩
    by_cases hx2 : x4 = 2
    · subst hx2
      obtain ⟨k, hk⟩ : ∃ k : Nat, (k : Int) = 8192 + d := ⟨(8192 + d).toNat, by omega⟩
      obtain ⟨ui, hui, huz, hus, hub⟩ := u8_info
      have hC : madeCells (Value.int .u8 0).cells (k * ui.size) = (bvs (List.replicate k 0)).toArray := by rw [hus]; exact made_u8 k
      have hkb : k ≤ 9000 := by omega
      have hbl0 : (List.replicate k (0 : UInt8)).length = k := List.length_replicate
      have HKK := Lib.hid hk
      have HC := Lib.hid hC
      have HBL0 := Lib.hid hbl0
      clear hk hC hbl0
      clear hx hx1
      go_wp2_with (refine wpList_make rfl Tryd.underlying23 hui huz rfl (m := k) (by show Value.int _ (8192 + d) = _; rw [HKK.out]) (by show Value.int _ (8192 + d) = _; rw [HKK.out]) (by rw [hub]; omega) (by unfold maxLen; omega) ?_; intro w6 hb6 hF6 hs6; rw [HC.out] at hb6; have hM6 := HB5.out.fresh hF6; have hy6 := hM6.cell 1; simp only [List.getElem?_toArray, List.getElem?_cons_zero, List.getElem?_cons_succ] at hy6; have hz6 := hM6.frozen 1; have hl6 := hM6.lt; have HM6 := Lib.hid hM6; have HF6 := Lib.hid hF6; have HB6 := Lib.hid hb6; have HS6 := Lib.hid hs6; clear hM6 hF6 hb6 hs6)
      go_meet
      have hM7 := HM6.out.set_ 1 (.slice (some ⟨w5.heap.size, 0, none⟩) k k)
      simp only [List.setIfInBounds_toArray, List.set_cons_zero, List.set_cons_succ] at hM7
      have hR7 := (HB6.out.far (p := ⟨gM, 1, none⟩) (by simp only; omega) (.slice (some ⟨w5.heap.size, 0, none⟩) k k)).rd
      rw [List.toList_toArray] at hR7
      have hRA := ((HAP0.out.fresh HF6.out).keep (Frm.setCell (M := fun q => q = gM) (Frm.refl _ w6) (p := ⟨gM, 1, none⟩) rfl (.slice (some ⟨w5.heap.size, 0, none⟩) k k)) (fun q hq e => by cases hq; have e2 : gA = gM := e; omega)).rd
      have hFW : Frm (New W) W (w6.setCell ⟨gM, 1, none⟩ (.slice (some ⟨w5.heap.size, 0, none⟩) k k)) := (HF05.out.then_new Up.new HF6.out).trans (Frm.setCell (M := New W) (Frm.refl _ w6) (p := ⟨gM, 1, none⟩) (by unfold New; simp only; omega) _)
      refine ⟨_, 3, [], some ⟨w5.heap.size, 0, none⟩, k, List.replicate k 0, none, 0, [], ?_, Lib.hid (by rw [List.append_nil]; exact hRA), Lib.hid hR7, Lib.hid Rd.nil, Lib.hid hFW, Lib.hid (limOk2 d hd1 hd2 _ (by rw [HBL0.out]; exact HKK.out)), hM7.lt, Lib.hid (fun _ q hq e => by obtain rfl : w5.heap.size = q := (by cases hq; rfl); have e2 : w5.heap.size = gM := e; omega), Lib.hid (fun h => absurd rfl h)⟩
      rw [HBL0.out]
      exact Lib.hid hM7
    · have hx3 : x4 = 3 := by omega
      subst hx3
      clear hx hx1 hx2
      obtain ⟨k, hk⟩ : ∃ k : Nat, (k : Int) = 64 + d := ⟨(64 + d).toNat, by omega⟩
      go_upto_region 7 with (fail)
      go_loopg [] k (fun kk wx => ∃ (m : Nat) (A : Option Addr) (c : Nat), m + kk = k ∧ m ≤ k ∧ Hid (Blk wx gM 25 #[.slice (some ⟨gA, 0, none⟩) 3 3, .slice none 0 0, .slice A m c]) ∧ Hid (App (New w5) wx 34 2 A m c (fvs (List.replicate m fT))) ∧ Hid (Frm (fun q => q = gM ∨ New w5 q) w5 wx))
      case atStart => exact ⟨0, none, 0, by omega, by omega, HB5, Lib.hid App.none_, Lib.hid (Frm.refl _ _)⟩
      case round =>
        obtain ⟨m, A, c, hmk, hmk3, hM, hA, hF⟩ := hrel
        rename World => wr
        have hMc := hM.out.cell 2
        simp only [List.getElem?_toArray, List.getElem?_cons_zero, List.getElem?_cons_succ] at hMc
        have hMl := hM.out.lt
        by_cases hmk2 : m < k
        · have hlt : (m : Int) < 64 + d := by omega
          have hUr : Up (New w5) wr := Up.new.frm hF.out
          have hrep : fvs (List.replicate m fT) ++ [.string ⟨#[116]⟩, .string ⟨#[]⟩] = fvs (List.replicate (m + 1) fT) := by
            rw [List.replicate_succ', fvs_append]
            rfl
          have HREP := Lib.hid hrep
          have HUR := Lib.hid hUr
          clear hrep hUr
          go_upto_region 8 with (fail)
          go_wp2_with (at_builtin; refine wpList_append_lit flds rfl rfl rfl hA.out HUR.out rfl rfl (fld_one _ _) (by omega) ?_; intro A9 c9 w9 hA9 hF9 _ _; have hM9 := hM.out.keep hF9 (by unfold New; omega); have hy9 := hM9.cell 2; simp only [List.getElem?_toArray, List.getElem?_cons_zero, List.getElem?_cons_succ] at hy9; have hz9 := hM9.frozen 2; have hl9 := hM9.lt; have HA9 := Lib.hid hA9; have HF9 := Lib.hid hF9; have HM9 := Lib.hid hM9; clear hA9 hF9 hM9)
          have hset : Frm (fun q => q = gM) w9 (w9.setCell ⟨gM, 2, none⟩ (.slice A9 (m + 1) c9)) := Frm.setCell (M := fun q => q = gM) (Frm.refl _ w9) (p := ⟨gM, 2, none⟩) rfl _
          have hM7 := HM9.out.set_ 2 (.slice A9 (m + 1) c9)
          simp only [List.setIfInBounds_toArray, List.set_cons_zero, List.set_cons_succ] at hM7
          have hA7 := HA9.out.keep hset (fun q hq e => by have := HA9.out.inM q hq; unfold New at this; omega)
          have hF7 : Frm (fun q => q = gM ∨ New w5 q) w5 (w9.setCell ⟨gM, 2, none⟩ (.slice A9 (m + 1) c9)) := (hF.out.trans (HF9.out.mono (fun q hq => .inr hq))).trans (hset.mono (fun q hq => .inl hq))
          rw [HREP.out] at hA7
          have HM7 := Lib.hid hM7
          have HA7 := Lib.hid hA7
          have HF7 := Lib.hid hF7
          clear hM7 hA7 hF7
          clear HA9 HF9 HM9 hset hy9 hz9
          go_roundg (gk - 1)
          case measure => omega
          case rel => exact ⟨m + 1, A9, c9, by omega, by omega, HM7, HA7, HF7⟩
        · have hlt : ¬ (m : Int) < 64 + d := by omega
          obtain rfl : m = k := by omega
          go_wp2_with (fail)
          go_meet
          have hFW : Frm (New W) W wr := HF05.out.trans (hF.out.mono (fun q hq => by have := HF05.out.size; unfold New at hq ⊢; omega))
          have hlA := hgAl2
          have hRA := (HAP0.out.keep hF.out (fun q hq e => by obtain rfl : gA = q := (by cases hq; rfl); rcases e with e | e; exact absurd e (by omega); unfold New at e; omega)).rd
          have hlen : m = (List.replicate m fT).length := by rw [List.length_replicate]
          refine ⟨_, 3, [], none, 0, [], A, c, List.replicate m fT, ?_, Lib.hid (by rw [List.append_nil]; exact hRA), Lib.hid Rd.nil, Lib.hid hA.out.rd, Lib.hid hFW, Lib.hid (limOk3 d hd1 hd2 m (by omega)), hMl, Lib.hid (fun h => absurd rfl h), Lib.hid (fun _ q hq e => by have h1 := hA.out.inM q hq; unfold New at h1; have e2 : q = gM := e; omega)⟩
          rw [← hlen]
          exact hM
  case rest =>
    obtain ⟨A1, c1, R, A2, c2, b, A3, c3, ts, hM, hR1, hR2, hR3, hF, hL, hgl, hf2, hf3⟩ := hcut
    rename World => w6
    have hgMW : W.heap.size ≤ gM := by have := HF1.out.size; omega
    clear HB5 HAP0 HUP HBA HF05 hgAM
    have hL2 := hL.out
    obtain ⟨l1, l2, l3, l4, l5, hlaw⟩ := hL2
    obtain ⟨nR, hnR⟩ : ∃ nR, nR = 3 + R.length := ⟨_, rfl⟩
    rw [← hnR] at hM
    have hF1s := HF1.out.size
    have HLAW := Lib.hid hlaw
    have HNR := Lib.hid hnR
    clear hlaw hnR
    go_upto_if 76 with (fail)
    go_cut [] from 77 to 84 (fun w' => ∃ (A : Option Addr) (c : Nat), Hid (Blk w' gM 25 #[.slice A nR c, .slice A2 b.length c2, .slice A3 ts.length c3]) ∧ Hid (Rd w' A (fvs ((if bad then base3b else base3) ++ R))) ∧ Hid (Rd w' A2 (bvs b)) ∧ Hid (Rd w' A3 (fvs ts)) ∧ Hid (Frm (New W) W w'))
    case first =>
      cases bad with
      | false =>
        go_wp2_with (fail)
        go_meet
        exact ⟨A1, c1, hM, hR1, hR2, hR3, hF⟩
      | true =>
        have hsz3 : fsizes (base3 ++ R) ≤ 20000 := by rw [fsizes_append, show fsizes base3 = 125 from rfl]; omega
        have hlen3 : (fvs (base3 ++ R)).length = nR * 2 := by rw [fvs_length, List.length_append, show base3.length = 3 from rfl, HNR.out]; omega
        have hR73 : nR ≤ 73 := by rw [HNR.out]; omega
        have hMc := hM.out.cell 0
        simp only [List.getElem?_toArray, List.getElem?_cons_zero] at hMc
        have hMl := hM.out.lt
        go_upto_region 19 with (at_builtin; refine wpList_append flds rfl rfl rfl App.none_ Up.new rfl hR1.out hlen3 (fvs_one _) (by omega) ?_; intro A9 c9 w9 hA9 hF9 _ _; rw [List.nil_append] at hA9; have hM9 := hM.out.fresh hF9; have hy9 := hM9.cell 0; simp only [List.getElem?_toArray, List.getElem?_cons_zero] at hy9; have hz9 := hM9.frozen 0; have hl9 := hM9.lt; have HA9 := Lib.hid hA9; have HF9 := Lib.hid hF9; have HM9 := Lib.hid hM9; clear hA9 hF9 hM9)
        have hM7 := HM9.out.set_ 0 (.slice A9 (0 + nR) c9)
        simp only [List.setIfInBounds_toArray, List.set_cons_zero] at hM7
        have hs := Frm.setCell (M := fun q => q = gM) (Frm.refl _ w9) (p := ⟨gM, 0, none⟩) rfl (.slice A9 (0 + nR) c9)
        have hA7 := HA9.out.keep hs (fun q hq e => by have := HA9.out.inM q hq; unfold New at this; have e2 : q = gM := e; omega)
        have hF7 : Frm (fun q => q = gM ∨ New w6 q) w6 (w9.setCell ⟨gM, 0, none⟩ (.slice A9 (0 + nR) c9)) := (HF9.out.mono (fun q hq => .inr hq)).trans (hs.mono (fun q hq => .inl hq))
        rw [Nat.zero_add] at hM7 hA7 hF7
        generalize w9.setCell ⟨gM, 0, none⟩ (.slice A9 nR c9) = w10 at *
        obtain ⟨g9, o9, rfl, hce, hfz, hMg, hgl9, hAset⟩ := hA7.setC 0 (by rw [hlen3, HNR.out]; omega)
        have hA8 := hAset (.string ⟨#[58, 77, 101, 116, 104, 111, 100]⟩)
        rw [Nat.add_zero] at hce hfz hA8
        have hsv : (fvs (base3 ++ R)).set 0 (.string ⟨#[58, 77, 101, 116, 104, 111, 100]⟩) = fvs (base3b ++ R) := rfl
        rw [hsv] at hA8
        have hgg : g9 ≠ gM := fun e => by unfold New at hMg; omega
        have hM8 := hM7.far (p := ⟨g9, o9, none⟩) (fun e => hgg e.symm) (.string ⟨#[58, 77, 101, 116, 104, 111, 100]⟩)
        have hF8 : Frm (fun q => q = gM ∨ New w6 q) w6 (w10.setCell ⟨g9, o9, none⟩ (.string ⟨#[58, 77, 101, 116, 104, 111, 100]⟩)) := hF7.trans (Frm.setCell (M := fun q => q = gM ∨ New w6 q) (Frm.refl _ w10) (p := ⟨g9, o9, none⟩) (.inr hMg) _)
        have hR28 := hR2.out.keep2 hF8 (fun hn q hq e => by
          rcases e with e | e
          · exact hf2.out hn q hq e
          · have := hR2.out.blk_lt hn hq; unfold New at e; omega)
        have hR38 := hR3.out.keep2 hF8 (fun hn q hq e => by
          rcases e with e | e
          · exact hf3.out hn q hq e
          · have := hR3.out.blk_lt hn hq; unfold New at e; omega)
        have hFW : Frm (New W) W (w10.setCell ⟨g9, o9, none⟩ (.string ⟨#[58, 77, 101, 116, 104, 111, 100]⟩)) := hF.out.trans (hF8.mono (fun q hq => by have := hF.out.size; unfold New at hq ⊢; omega))
        have hM7c := hM7.cell 0
        simp only [List.getElem?_toArray, List.getElem?_cons_zero] at hM7c
        obtain ⟨old, hold⟩ : ∃ old, old = (fvs (base3 ++ R))[0]'(by rw [hlen3, HNR.out]; omega) := ⟨_, rfl⟩
        rw [← hold] at hce
        have hnR0 : 0 < nR := by rw [HNR.out]; omega
        clear hAset hA7 hold hsv hs hF7 HA9 HF9 HM9 hy9 hz9
        have HA8 := Lib.hid hA8
        have HM8 := Lib.hid hM8
        have HF8 := Lib.hid hF8
        have HR28 := Lib.hid hR28
        have HR38 := Lib.hid hR38
        have HFW := Lib.hid hFW
        clear hA8 hM8 hF8 hR28 hR38 hFW
        go_wp2_with (fail)
        go_meet
        exact ⟨_, c9, HM8, Lib.hid HA8.out.rd, HR28, HR38, HFW⟩
    case rest =>
      obtain ⟨A, c, hM, hR1, hR2, hR3, hF⟩ := hcut
      rename World => w7
      obtain ⟨fs, hfs⟩ : ∃ fs, fs = (if bad then base3b else base3) ++ R := ⟨_, rfl⟩
      rw [← hfs] at hR1
      have hfl : fs.length = nR := by rw [hfs, HNR.out, List.length_append, (lim_sizes bad).2]
      have hfz : fsizes fs ≤ 20000 := by rw [hfs, fsizes_append, (lim_sizes bad).1]; omega
      obtain ⟨m, hm⟩ : ∃ m : MV, m = ⟨A, c, fs, A2, c2, b, A3, c3, ts⟩ := ⟨_, rfl⟩
      have hmc : m.cells = #[.slice A nR c, .slice A2 b.length c2, .slice A3 ts.length c3] := by rw [hm, ← hfl]; rfl
      obtain ⟨hlg, hcl⟩ := HLAW.out bad m (by rw [hm]; exact hfs) (by rw [hm]) (by rw [hm])
      have hmi : MIn w7 m := by rw [hm]; exact ⟨hR1.out, hR2.out, hR3.out⟩
      have hnR73 : nR ≤ 73 := by rw [HNR.out]; omega
      have hmz : MSz m := by rw [hm]; exact ⟨by show fsizes fs ≤ _; omega, by show fs.length ≤ _; omega, by show fsizes ts ≤ _; omega, by show ts.length ≤ _; omega, by show b.length ≤ _; omega⟩
      have hrq := request_any m w7 hmi hmz (by rw [hm]; show b.length ≤ _; omega) (by rw [hm]; show ts.length ≤ _; omega)
      unfold RqR at hrq
      have hla : ∀ w', Frm (New w7) w7 w' → Calls Tryd.prog 16 #[.agg m.cells] w' fun e w2 => e = .returned (.bool (lrgM m)) ∧ Frm (New w') w' w2 := fun w' f => Large_any m w' (hmi.fresh f) hmz
      rw [hlg] at hla
      rw [hmc] at hrq hla
      generalize rcls m = rc at *
      generalize rq m = rqm at *
      clear hm hmc hmi hmz hlg HLAW hfs hfl hfz hL
      have HRQ := Lib.hid hrq
      have HLA := Lib.hid hla
      have HCL := Lib.hid hcl
      clear hrq hla hcl
      go_upto_region 21 with (first
        | (refine wpList_load_agg agM rfl rfl rfl hM.out rfl ?_)
        | (go_at_call 13; refine HRQ.out.mono ?_; intro e w8 hR; obtain ⟨⟨p1, p2, p3, p4, a1, e1, f, a2, e2, b', a3, e3, t⟩, rfl, hin, hq, hF4⟩ := hR; simp only [RV.cells])
        | (refine wpList_new rfl rfl zReq rfl ?_; intro w9 hb9 hF9 hs9)
        | (refine wpList_store_agg rfl rfl rfl rfl hb9 rfl (req_one _ _ _ _ _ _ _ _ _ _ _ _ _) (by kernel_rfl) ?_; intro w10 hb10 hF10 hs10))
      have hF810 : Frm (New w8) w8 w10 := hF9.trans (hF10.mono (fun k hk => by subst hk; unfold New; omega))
      have hF710 : Frm (New w7) w7 w10 := hF4.then_new Up.new hF810
      have hM10 := hM.out.fresh hF710
      have hF010 := hF.out.then_new Up.new hF710
      have hla10 := HLA.out w10 hF710
      clear hb10 hF10 hs10 hb9 hF9 hs9 hF810 hF4 hin hq HRQ HLA hM hF hF710
      have hl10 := hM10.lt
      have hy0 := hM10.cell 0
      have hy1 := hM10.cell 1
      have hy2 := hM10.cell 2
      simp only [List.getElem?_toArray, List.getElem?_cons_zero, List.getElem?_cons_succ] at hy0 hy1 hy2
      have HM10 := Lib.hid hM10
      have HF010 := Lib.hid hF010
      have HLA10 := Lib.hid hla10
      clear hM10 hF010 hla10
      by_cases hd0 : 0 < d
      · have hl := HLA10.out
        rw [decide_eq_true hd0] at hl
        clear HLA10
        have HLA10 := Lib.hid hl
        clear hl
        have e : rc = 2 := by rw [HCL.out, if_pos hd0]
        subst e
        clear HCL
        cases bad with
        | true =>
          go_wp2_with (first
            | (go_at_call 16; refine HLA10.out.mono ?_; rintro e w11 ⟨rfl, hF11⟩))
          go_ret
          exact ⟨rfl, (HF010.out.then_new Up.new hF11).below⟩
        | false =>
          go_wp2_with (first
            | (go_at_call 16; refine HLA10.out.mono ?_; rintro e w11 ⟨rfl, hF11⟩))
          go_ret
          exact ⟨rfl, (HF010.out.then_new Up.new hF11).below⟩
      · have hl := HLA10.out
        rw [decide_eq_false hd0] at hl
        clear HLA10
        have HLA10 := Lib.hid hl
        clear hl
        cases bad with
        | true =>
          have e : rc = 1 := by rw [HCL.out, if_neg hd0]; rfl
          subst e
          clear HCL
          go_wp2_with (first
            | (go_at_call 16; refine HLA10.out.mono ?_; rintro e w11 ⟨rfl, hF11⟩))
          go_ret
          exact ⟨by rw [show (decide (0 < d)) = false from decide_eq_false (Int.not_lt.2 hd0)]; rfl, (HF010.out.then_new Up.new hF11).below⟩
        | false =>
          have e : rc = 0 := by rw [HCL.out, if_neg hd0]; rfl
          subst e
          clear HCL
          go_wp2_with (first
            | (go_at_call 16; refine HLA10.out.mono ?_; rintro e w11 ⟨rfl, hF11⟩))
          go_ret
          exact ⟨by rw [show (decide (0 < d)) = false from decide_eq_false (Int.not_lt.2 hd0)]; rfl, (HF010.out.then_new Up.new hF11).below⟩
end Go.Proofs.YtpojejdddgdjdaaDoor.M
