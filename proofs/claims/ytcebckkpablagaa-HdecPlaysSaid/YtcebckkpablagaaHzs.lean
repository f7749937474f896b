/- bifoldlaw6.HdecSizes: for every input it tells true. No condition. -/
import Derived.Deep.CutBlock
import Derived.BigQuiet
import Derived.Test.YtcebckkpablagaaKn6
import Derived.Test.YtcebckkpablagaaIn
import Derived.Test.YtcebckkpablagaaHpl
import Derived.Test.YtcebckkpablagaaRnum
namespace Go.Proofs.Ytcebckkpablagaa.M
open Go.ChangeShapes Go.WideShapes Go.ChangeAt Go.RowKit

theorem KSt.step {w0 w w' : World} {S : Nat → Prop} {pd g : Nat} {D D' : De} (h : KSt w0 w S pd g D) (hd : HDeAt S w' pd g D') (f : Frm (fun k => k = pd ∨ Own S w k) w w') : KSt w0 w' S pd g D' :=
  ⟨hd, h.frm.trans (f.mono (fun k hk => by
    have hs := h.frm.size
    rcases hk with hk | hk | hk
    · rw [hk]; exact h.pw
    · exact h.low k hk
    · exact Nat.le_trans hs hk)), h.low, h.pw⟩
theorem lim_of (v : Nat) (h : v ≤ 4096) : lim (v : Int) = v := by unfold lim; omega
/-- the decoder that the law makes -/
def szD (limit lower : Nat) : De := let D := De.mk ⟨[], 0, limit % 4097⟩ (limit % 4097) false false; if lower % 2 = 1 then D.limit ((lower % 4097 : Nat) : Int) else D
theorem szD_even {a b : Nat} (h : b % 2 ≠ 1) : szD a b = ⟨⟨[], 0, a % 4097⟩, a % 4097, false, false⟩ := by unfold szD; rw [if_neg h]
theorem szD_odd {a b : Nat} (h : b % 2 = 1) : szD a b = (De.mk ⟨[], 0, a % 4097⟩ (a % 4097) false false).limit ((b % 4097 : Nat) : Int) := by unfold szD; rw [if_pos h]
theorem szD_facts (a b : Nat) : (szD a b).bad = false ∧ (szD a b).t.n = 0 ∧ (szD a b).max = (if b % 2 = 1 then b % 4097 else a % 4097) ∧ (szD a b).must = (if b % 2 = 1 then decide (b % 4097 < a % 4097) else false) := by
  unfold szD
  by_cases h : b % 2 = 1
  · rw [if_pos h, if_pos h, if_pos h]
    unfold De.limit
    rw [lim_of _ (by omega)]
    simp only
    by_cases h2 : b % 4097 < a % 4097
    · rw [if_pos h2]
      exact ⟨rfl, rfl, rfl, by simp [h2]⟩
    · rw [if_neg h2]
      exact ⟨rfl, rfl, rfl, by simp [h2]⟩
  · rw [if_neg h, if_neg h, if_neg h]
    exact ⟨rfl, rfl, rfl, rfl⟩
theorem App.lt {M : Nat → Prop} {w : World} {e size n c : Nat} {A : Option Addr} {xs : List Value} (h : App M w e size A n c xs) (hn : xs ≠ []) : ∀ k, blk A = some k → k < w.heap.size := fun k hk => by
  obtain ⟨g, off, e, hl⟩ := h.rd.lt hn
  rw [e] at hk
  have hk2 : g = k := by simpa using hk
  omega
def ok0 (must behind : Bool) (n : Nat) : Bool := if behind then decide (n = 0) && !must else decide (n ≤ 2) && (!must || decide (0 < n))
def ok1 (must : Bool) (n : Nat) : Bool := decide (n ≤ 2) && (!must || decide (0 < n))
def okU (top : Nat) (us : List Nat) : Bool := us.all (fun u => decide (u ≤ top))
theorem okU_take (top : Nat) (us : List Nat) (k : Nat) (h : k < us.length) : okU top (us.take (k + 1)) = (okU top (us.take k) && decide (us[k] ≤ top)) := by
  unfold okU
  rw [List.take_succ_eq_append_getElem h, List.all_append]
  simp
theorem ok_iff (D : De) (behind : Bool) (us : List Nat) : (ok0 D.must behind us.length && okU D.max us) = true ↔ szOk D behind us := by
  unfold ok0 okU szOk
  rw [Bool.and_eq_true, List.all_eq_true]
  simp only [decide_eq_true_eq]
  refine and_congr ?_ Iff.rfl
  cases behind with
  | true =>
    simp
  | false =>
    simp only [Bool.false_eq_true, if_false, Bool.and_eq_true, decide_eq_true_eq, Bool.or_eq_true, Bool.not_eq_true']
    refine and_congr Iff.rfl ?_
    cases D.must with
    | false => simp
    | true =>
      simp [List.length_pos_iff]
def szP (behind : Bool) (us : List Nat) (k : Nat) : Bytes := (if behind then [130] else []) ++ (us.take k).flatMap (pfx 32 5)
theorem szP_succ (behind : Bool) (us : List Nat) (k : Nat) (h : k < us.length) : szP behind us (k + 1) = szP behind us k ++ pfx 32 5 us[k] := by
  unfold szP
  rw [List.take_succ_eq_append_getElem h, List.flatMap_append, List.flatMap_cons, List.flatMap_nil, List.append_nil, List.append_assoc]
theorem szP_le (behind : Bool) (us : List Nat) : ∀ k, k ≤ us.length → (szP behind us k).length ≤ 1 + 12 * k
  | 0, _ => by
    unfold szP
    cases behind <;> simp
  | k + 1, h => by
    have h1 := szP_le behind us k (by omega)
    have h2 := pfx_length 32 5 us[k]
    rw [szP_succ behind us k (by omega), List.length_append]
    omega
theorem szB_eq (behind : Bool) (us : List Nat) (field : Bool) : szB behind us field = szP behind us us.length ++ (if field then [132] else []) := by
  unfold szB szP
  rw [List.take_length, List.append_assoc]

theorem cnt_last (us : List Nat) (n : Nat) (h : us.length = n) : n = 0 ∨ ∃ v, us.getLast? = some v ∧ us[n - 1]? = some v := by
  subst h
  cases hl : us.getLast? with
  | none => exact .inl (by rw [show us = [] by simpa using hl]; rfl)
  | some v => exact .inr ⟨v, rfl, by rw [← hl, List.getLast?_eq_getElem?]⟩
set_option maxRecDepth 100000 in
set_option maxHeartbeats 4000000 in
theorem hsizes_walk (a b : Int) (A : Option Addr) (n c : Nat) (us : List Nat) (field behind : Bool) (W : World) (ha : (Lit.int .u16 a).wf = true) (hb : (Lit.int .u16 b).wf = true) (h : UIn W A n c us) :
    Calls Try.prog 13 #[.int .u16 a, .int .u16 b, .slice A n c, .bool field, .bool behind] W fun e w' => e = .returned (.bool true) ∧ Below W.heap.size W w' := by
  obtain ⟨hn, hR, hsm, hcap⟩ := h
  subst hn
  have ha : 0 ≤ a ∧ a ≤ 65535 := by
    simp only [Lit.wf, decide_eq_true_eq, Bool.and_eq_true] at ha; exact ha
  have hb : 0 ≤ b ∧ b ≤ 65535 := by
    simp only [Lit.wf, decide_eq_true_eq, Bool.and_eq_true] at hb; exact hb
  obtain ⟨a, rfl⟩ : ∃ u : Nat, a = u := ⟨a.toNat, by omega⟩
  obtain ⟨b, rfl⟩ : ∃ u : Nat, b = u := ⟨b.toNat, by omega⟩
  obtain ⟨D0, hD0⟩ : ∃ D0, D0 = De.mk ⟨[], 0, a % 4097⟩ (a % 4097) false false := ⟨_, rfl⟩
  have hF := szD_facts a b
  have hSe : b % 2 ≠ 1 → szD a b = D0 := fun q => (szD_even q).trans hD0.symm
  have hSo : b % 2 = 1 → szD a b = D0.limit ((b % 4097 : Nat) : Int) := fun q => by rw [szD_odd q, hD0]
  generalize szD a b = D at *
  obtain ⟨hbad, hn0, hmax, hmust⟩ := hF
  obtain ⟨top, htop⟩ : ∃ t, t = a % 4097 := ⟨_, rfl⟩
  obtain ⟨low, hlow⟩ : ∃ t, t = b % 4097 := ⟨_, rfl⟩
  have wa : IntKind.i64.wrap (a : Int) = a := IntWalk.i64_in _ (by omega)
  have wb : IntKind.i64.wrap (b : Int) = b := IntWalk.i64_in _ (by omega)
  have ma : (a : Int) % 4097 = (top : Int) := by omega
  have ma2 : Int.tmod (a : Int) 4097 = (top : Int) := by rw [Int.tmod_eq_emod_of_nonneg (by omega)]; omega
  have mb : (b : Int) % 4097 = (low : Int) := by omega
  have mb2 : Int.tmod (b : Int) 4097 = (low : Int) := by rw [Int.tmod_eq_emod_of_nonneg (by omega)]; omega
  rw [← htop] at hmax hmust hD0
  rw [← hlow] at hmax hmust hSo
  have ht4 : top ≤ 4096 := by omega
  have hl4 : low ≤ 4096 := by omega
  obtain ⟨par, hpar⟩ : ∃ t, t = b % 2 := ⟨_, rfl⟩
  have mp : (b : Int) % 2 = (par : Int) := by omega
  have mp2 : Int.tmod (b : Int) 2 = (par : Int) := by rw [Int.tmod_eq_emod_of_nonneg (by omega)]; omega
  rw [← hpar] at hmax hmust hSe hSo
  have hp2 : par < 2 := by omega
  clear htop hlow hpar
  have HR := Lib.hid hR
  have HSM := Lib.hid hsm
  have HBAD := Lib.hid hbad
  have HN0 := Lib.hid hn0
  have HMAX := Lib.hid hmax
  have HMUST := Lib.hid hmust
  have HSE := Lib.hid hSe
  have HSO := Lib.hid hSo
  have HD0 := Lib.hid hD0
  clear hR hsm hbad hn0 hmax hmust hSe hSo hD0
  go_enter Try.func13, Try.ntmps13
  go_wp2_with (fail)
  refine (known6_any _).mono ?_
  rintro e w1 ⟨rfl, hF1⟩
  have HF1 := Lib.hid hF1
  clear hF1
  by_cases q1 : 4 < us.length
  · go_wp2
    go_ret
    exact ⟨rfl, HF1.out.below⟩
  go_wp2_with (fail)
  refine (hdnew_any top (by omega) (by omega) _).mono ?_
  rintro e w2 ⟨S, pd, g, rfl, hE2, hF2, hS2, hp2⟩
  rw [lim_of top ht4, ← HD0.out] at hE2
  have hK2 : KSt W w2 S pd g D0 := ⟨hE2, HF1.out.then_new Up.new hF2, fun k hk => Nat.le_trans HF1.out.size (hS2 k hk), Nat.le_trans HF1.out.size hp2⟩
  have HK2 := Lib.hid hK2
  clear hK2
  clear hE2 hF2 hS2 hp2 HF1
  go_upto_if 32 with (fail)
  go_cut [11, 13, 14] from 33 (fun v11 v13 v14 w5 => ∃ w3, w5 = w3 ∧ v11 = .int .i64 D.max ∧ v13 = .bool D.must ∧ Hid (KSt W w3 S pd g D))
  case first =>
    have hpp : par = 0 ∨ par = 1 := by omega
    rcases hpp with rfl | rfl
    · have hm := HMAX.out
      have hu := HMUST.out
      rw [if_neg (by decide)] at hm hu
      have hDD := HSE.out (by decide)
      have h0 := HK2.out
      rw [← hDD] at h0
      have K0 := Lib.hid h0
      clear h0
      clear hDD
      have HM := Lib.hid hm
      have HU := Lib.hid hu
      clear hm hu
      go_wp2
      go_meet
      exact ⟨_, rfl, by rw [HM.out], by rw [HU.out], K0⟩
    · have hm := HMAX.out
      have hu := HMUST.out
      rw [if_pos rfl] at hm hu
      have hDD := HSO.out rfl
      by_cases hlt : low < top
      · have hd : decide ((low : Int) < (top : Int)) = true := decide_eq_true (by omega)
        rw [decide_eq_true hlt] at hu
        have HM := Lib.hid hm
        have HU := Lib.hid hu
        have HDD := Lib.hid hDD
        clear hm hu hDD
        go_wp2_with (fail)
        refine (hlimit_any low (by omega) (by omega) _ HK2.out.de).mono ?_
        rintro e w3 ⟨rfl, hE3, hF3⟩
        have hK3 := HK2.out.step hE3 hF3
        rw [← HDD.out] at hK3
        have HK3 := Lib.hid hK3
        clear hK3
        clear hE3 hF3
        go_wp2
        go_meet
        exact ⟨_, rfl, by rw [HM.out], by rw [HU.out], HK3⟩
      · have hd : decide ((low : Int) < (top : Int)) = false := decide_eq_false (by omega)
        rw [decide_eq_false hlt] at hu
        have HM := Lib.hid hm
        have HU := Lib.hid hu
        have HDD := Lib.hid hDD
        clear hm hu hDD
        go_wp2_with (fail)
        refine (hlimit_any low (by omega) (by omega) _ HK2.out.de).mono ?_
        rintro e w3 ⟨rfl, hE3, hF3⟩
        have hK3 := HK2.out.step hE3 hF3
        rw [← HDD.out] at hK3
        have HK3 := Lib.hid hK3
        clear hK3
        clear hE3 hF3
        go_wp2
        go_meet
        exact ⟨_, rfl, by rw [HM.out], by rw [HU.out], HK3⟩
  case rest =>
    obtain ⟨w3, rfl, rfl, rfl, hK3⟩ := hcut
    rename World => w3
    clear HK2 HMAX HMUST HSE HSO HD0 wa wb ma ma2 mb mb2 mp mp2
    go_upto_region 14 with (fail)
    obtain ⟨mu, hmu⟩ : ∃ m, D.must = m := ⟨_, rfl⟩
    obtain ⟨mx, hmx⟩ : ∃ m, D.max = m := ⟨_, rfl⟩
    have hm4 : mx ≤ 4096 := by rw [← hmx]; exact hK3.out.de.max
    rw [hmu, hmx]
    generalize hln : us.length = ln at *
    have HMU := Lib.hid hmu
    have HMX := Lib.hid hmx
    have HK3 := Lib.hid hK3
    clear hmu hmx hK3
    go_cut [16] from 43 (fun v16 w5 => w5 = w3 ∧ v16 = .bool (ok1 mu ln))
    case first =>
      have hnn : ln = 0 ∨ (1 ≤ ln ∧ ln ≤ 2) ∨ 3 ≤ ln := by omega
      rcases hnn with rfl | ⟨n1, n2⟩ | n3
      · have hd : decide (((0 : Nat) : Int) ≤ 2) = true := by decide
        have hd2 : decide ((0 : Int) < ((0 : Nat) : Int)) = false := by decide
        cases mu
        all_goals go_wp2
        all_goals go_meet
        all_goals exact ⟨rfl, rfl⟩
      · have hd : decide ((ln : Int) ≤ 2) = true := decide_eq_true (by omega)
        have hd2 : decide ((0 : Int) < (ln : Int)) = true := decide_eq_true (by omega)
        have hk : ∀ m, ok1 m ln = true := fun m => by unfold ok1; rw [decide_eq_true n2, decide_eq_true (show 0 < ln by omega)]; simp
        have HK := Lib.hid hk
        clear hk
        cases mu
        all_goals go_wp2
        all_goals go_meet
        all_goals exact ⟨rfl, by first | (rw [HK.out]; done) | (rw [HK.out]; simp; omega)⟩
      · have hd : decide ((ln : Int) ≤ 2) = false := decide_eq_false (by omega)
        have hk : ∀ m, ok1 m ln = false := fun m => by unfold ok1; rw [decide_eq_false (show ¬ ln ≤ 2 by omega)]; rfl
        have HK := Lib.hid hk
        clear hk
        cases mu
        all_goals go_wp2
        all_goals go_meet
        all_goals exact ⟨rfl, by first | (rw [HK.out]; done) | (rw [HK.out]; simp; omega)⟩
    case rest =>
      obtain ⟨rfl, rfl⟩ := hcut
      rename World => w3
      go_upto_if 55 with (fail)
      go_cut [15, 16] from 56 (fun v15 v16 w5 => ∃ (w4 : World) (A4 : Option Addr) (c4 : Nat), w5 = w4 ∧ v15 = .slice A4 (szP behind us 0).length c4 ∧ v16 = .bool (ok0 mu behind ln) ∧ Hid (App (New w3) w4 5 1 A4 (szP behind us 0).length c4 (bvs (szP behind us 0))) ∧ Hid (Frm (New w3) w3 w4) ∧ Hid (∀ k, blk A4 = some k → k < w4.heap.size))
      case first =>
        cases behind with
        | false =>
          go_wp2
          go_meet
          exact ⟨_, none, 0, rfl, rfl, rfl, App.none_, Frm.refl _ _, fun k hk => by cases hk⟩
        | true =>
          by_cases hz : ln = 0
          · subst hz
            cases mu
            all_goals go_wp2_with (at_builtin; refine wpList_append_lit u8s rfl rfl rfl (App.none_ (M := New w3)) Up.new rfl rfl (one_cell _ rfl) (by omega) ?_; intro A4 c4 w4 hA4 hF4 _ _)
            all_goals go_meet
            all_goals exact ⟨_, A4, c4, rfl, rfl, rfl, hA4, hF4, App.lt hA4 (by simp)⟩
          · have hk : ∀ m, ok0 m true ln = false := fun m => by unfold ok0; rw [if_pos rfl, decide_eq_false hz]; rfl
            have hz2 : ((ln : Int) == 0) = false := by rw [beq_eq_false_iff_ne]; omega
            have HK := Lib.hid hk
            clear hk
            cases mu
            all_goals go_wp2_with (at_builtin; refine wpList_append_lit u8s rfl rfl rfl (App.none_ (M := New w3)) Up.new rfl rfl (one_cell _ rfl) (by omega) ?_; intro A4 c4 w4 hA4 hF4 _ _)
            all_goals go_meet
            all_goals exact ⟨_, A4, c4, rfl, rfl, by rw [HK.out], hA4, hF4, App.lt hA4 (by simp)⟩
      case rest =>
        obtain ⟨w4, A4, c4, rfl, rfl, rfl, hA4, hF4, hB4⟩ := hcut
        rename World => w4
        have hR3 := HR.out.fresh HK3.out.frm
        have hle := szP_le behind us
        rw [hln] at hle
        have HLN := Lib.hid hln
        have HR3 := Lib.hid hR3
        have HLE := Lib.hid hle
        clear hln hR3 hle
        go_wp2
        go_loopw [15, 16, 17] (fun vb vo vi wr => ∃ (k : Nat) (A5 : Option Addr) (c5 : Nat), k ≤ ln ∧ vb = .slice A5 (szP behind us k).length c5 ∧ vo = .bool (ok0 mu behind ln && okU mx (us.take k)) ∧ vi = .int .i64 k ∧ Hid (App (New w3) wr 5 1 A5 (szP behind us k).length c5 (bvs (szP behind us k))) ∧ Hid (Frm (New w3) w3 wr) ∧ Hid (∀ k, blk A5 = some k → k < wr.heap.size)) (fun _ _ vi _ => ln - (intOf vi).toNat)
        case atStart => exact ⟨0, A4, c4, Nat.zero_le _, rfl, by rw [List.take_zero]; show _ = Value.bool (_ && true); rw [Bool.and_true], rfl, hA4, hF4, hB4⟩
        case round =>
          obtain ⟨k, A5, c5, hk, rfl, rfl, rfl, hA5, hF5, hB5⟩ := hrel
          clear hA4 hF4 hB4
          by_cases hlt : k < ln
          · have hlt' : k < us.length := by rw [HLN.out]; exact hlt
            obtain ⟨gA, oA, rfl, hx3⟩ := HR3.out.at_ (k := k) (by simp [u16s_]; exact hlt')
            have hu6 := HSM.out us[k] (List.getElem_mem hlt')
            have hPS := szP_succ behind us k hlt'
            have hOU := okU_take mx us k hlt'
            have hx2 : (u16s_ us)[k]'(by simp [u16s_]; exact hlt') = .int .u16 (us[k] : Int) := by simp [u16s_]
            rw [hx2] at hx3
            have hlek := HLE.out k hk
            have hg3 := World.block_lt_of_cell? _ _ hx3
            have hg3' : ¬ New w3 gA := by unfold New; simp only at hg3; omega
            have hx : wr.cell? ⟨gA, oA + k, none⟩ = some (.int .u16 (us[k] : Int)) := by rw [hF5.out.cell hg3']; exact hx3
            have hg5 := World.block_lt_of_cell? _ _ hx
            generalize us[k] = u at *
            clear hx2 hB5
            have hwu : IntKind.u64.wrap (u : Int) = u := IntWalk.u64_in _ (by omega)
            have hwi : IntKind.i64.wrap (u : Int) = u := IntWalk.i64_in _ (by omega)
            have HPS := Lib.hid hPS
            have HOU := Lib.hid hOU
            have HX3 := Lib.hid hx3
            have HG3' := Lib.hid hg3'
            clear hPS hOU hx3 hg3'
            go_wp2_with (fail)
            have hp : Calls Try.prog 39 #[.slice A5 (szP behind us k).length c5, .int .u8 32, .int .i64 5, .int .u64 (u : Int)] wr (RetA (New w3) wr (szP behind us k ++ pfx 32 5 u)) := rprefix_nat (New w3) (szP behind us k) A5 c5 32 5 u wr (Up.new.of hF5.out.size) hA5.out (by omega) (by omega) (by omega) (by omega) (by omega)
            refine hp.mono ?_
            rintro e w6 ⟨A6, c6, rfl, hA6, hF6⟩
            rw [← HPS.out] at hA6 ⊢
            have hF56 := hF5.out.trans hF6
            have hx : w6.cell? ⟨gA, oA + k, none⟩ = some (.int .u16 (u : Int)) := by rw [hF56.cell HG3'.out]; exact HX3.out
            have hg6 := World.block_lt_of_cell? _ _ hx
            have hB6 : Hid (∀ k, blk A6 = some k → k < w6.heap.size) := hA6.lt (by
              rw [HPS.out]
              intro c
              have := congrArg List.length c
              have hq : 0 < (pfx 32 5 u).length := by unfold pfx; split <;> simp
              rw [bvs_length, List.length_append, List.length_nil] at this
              omega)
            clear hp hF6
            have HA6 := Lib.hid hA6
            have HF56 := Lib.hid hF56
            clear hA6 hF56
            generalize hokk : (ok0 mu behind ln && okU mx (us.take k)) = okk at *
            have hnx : (ok0 mu behind ln && okU mx (us.take (k + 1))) = (okk && decide (u ≤ mx)) := by rw [HOU.out, ← hokk, Bool.and_assoc]
            have HOKK := Lib.hid hokk
            have HNX := Lib.hid hnx
            clear hokk hnx
            cases okk with
            | false =>
              go_wp2
              go_roundw
              case rel => exact ⟨k + 1, A6, c6, by omega, rfl, by rw [HNX.out]; rfl, by go_num, HA6, HF56, hB6⟩
              case measure => simp [intOf]; omega
            | true =>
              by_cases hum : u ≤ mx
              · have hd : decide ((u : Int) ≤ (mx : Int)) = true := decide_eq_true (by omega)
                go_wp2
                go_roundw
                case rel => exact ⟨k + 1, A6, c6, by omega, rfl, by rw [HNX.out, decide_eq_true hum]; rfl, by go_num, HA6, HF56, hB6⟩
                case measure => simp [intOf]; omega
              · have hd : decide ((u : Int) ≤ (mx : Int)) = false := decide_eq_false (by omega)
                go_wp2
                go_roundw
                case rel => exact ⟨k + 1, A6, c6, by omega, rfl, by rw [HNX.out, decide_eq_false hum]; rfl, by go_num, HA6, HF56, hB6⟩
                case measure => simp [intOf]; omega
          · obtain rfl : k = ln := by omega
            have hcat : szB behind us field = szP behind us k ++ (if field then [132] else []) := by rw [szB_eq, HLN.out]
            obtain ⟨bb, hbb⟩ : ∃ bb, bb = szB behind us field := ⟨_, rfl⟩
            have hbl : bb.length ≤ 100 := by
              have := HLE.out k (Nat.le_refl _)
              rw [hbb, hcat, List.length_append]
              have : (if field = true then [132] else [] : Bytes).length ≤ 1 := by cases field <;> simp
              omega
            rw [← hbb] at hcat
            have hok : Hid ((ok0 mu behind k && okU mx (us.take k)) = true ↔ szOk D behind us) := by
              show _ ↔ _
              rw [← ok_iff, HMU.out, HMX.out, HLN.out, List.take_of_length_le (by rw [HLN.out]; omega)]
            generalize (ok0 mu behind k && okU mx (us.take k)) = okk at *
            generalize szP behind us k = P0 at *
            have hrun := sz_run HBAD.out behind us field HSM.out
            rw [← hbb] at hrun
            have hlast := cnt_last us k HLN.out
            have hR5 := HR3.out.fresh hF5.out
            have HCAT := Lib.hid hcat
            have HRUN := Lib.hid hrun
            have HLAST := Lib.hid hlast
            have HBB := Lib.hid hbb
            have HR5 := Lib.hid hR5
            clear hcat hrun hlast hbb hR5
            go_upto_if 89 with (fail)
            go_cut [15] from 90 (fun v15 w5 => ∃ (w7 : World) (A7 : Option Addr) (c7 : Nat), w5 = w7 ∧ v15 = .slice A7 bb.length c7 ∧ Hid (App (New w3) w7 5 1 A7 bb.length c7 (bvs bb)) ∧ Hid (Frm (New w3) w3 w7) ∧ Hid (∀ k, blk A7 = some k → k < w7.heap.size))
            case first =>
              cases field with
              | false =>
                have hb0 : bb = P0 := by rw [HCAT.out]; exact List.append_nil _
                subst hb0
                go_wp2
                go_meet
                exact ⟨_, A5, c5, rfl, rfl, hA5, hF5, hB5⟩
              | true =>
                have hb0 : bb = P0 ++ [132]   := HCAT.out
                have hb1 : P0.length + 1 = bb.length := by rw [hb0]; simp
                have hb2 : bvs P0 ++ #[Value.int .u8 132].toList = bvs bb := by rw [hb0, bvs_append]; rfl
                have hp9 : P0.length ≤ 100 := by omega
                have HB0 := Lib.hid hb0
                have HB1 := Lib.hid hb1
                have HB2 := Lib.hid hb2
                clear hb0 hb1 hb2
                go_wp2_with (at_builtin; refine wpList_append_lit u8s rfl rfl rfl hA5.out (Up.new.of hF5.out.size) rfl rfl (one_cell _ rfl) (by omega) ?_; intro A7 c7 w7 hA7 hF7 _ _; rw [HB1.out] at hA7 ⊢; rw [HB2.out] at hA7)
                go_meet
                exact ⟨_, A7, c7, rfl, rfl, hA7, hF5.out.trans hF7, App.lt hA7 (by rw [← HB2.out]; simp)⟩
            case rest =>
              obtain ⟨w7, A7, c7, rfl, rfl, hA7, hF7, hB7⟩ := hcut
              rename World => w7
              have hK7 := HK3.out.fresh hF7.out
              have hfar7 : ∀ k, blk A7 = some k → k ≠ pd ∧ ¬ S k ∧ k < w7.heap.size := fun q hq => by
                have h1 := hA7.out.inM q hq
                unfold New at h1
                have h2 := HK3.out.de.blk.lt
                exact ⟨by omega, fun c => by have := HK3.out.de.tab.low q c; omega, hB7.out q hq⟩
              have hR7 := HR3.out.fresh hF7.out
              have HK7 := Lib.hid hK7
              have HR7 := Lib.hid hR7
              clear hK7 hR7
              go_wp2_with (fail)
              refine (kdec HK7.out bb A7 c7 hA7.out.rd hA7.out.cap hfar7 (by omega) (fun _ => by rw [HN0.out]; omega)).mono ?_
              rintro e w8 hres
              cases okk with
              | false =>
                have hr := HRUN.out.2 (fun c => by have := hok.out.2 c; cases this)
                rw [hr] at hres
                obtain ⟨S8, D8, hK8, rfl, hb8, hF8, hS8⟩ := hres
                have HK8 := Lib.hid hK8
                clear hK8
                clear hb8 hF8 hS8 hr
                go_upto_region 26 with (fail)
                go_quiet (fail)
                go_wp2
                go_ret
                exact ⟨rfl, (HK8.out.frm.drewN _).below⟩
              | true =>
                obtain ⟨l, T, hr, hcap⟩ := HRUN.out.1 (hok.out.1 rfl)
                rw [hr] at hres
                obtain ⟨S8, A8, c8, hK8, rfl, _, hF8, hS8⟩ := hres
                have hR8 : Rd w8 A (u16s_ us) := by
                  by_cases hz : us = []
                  · rw [hz]; exact Rd.nil
                  · obtain ⟨g9, o9, e9, l9⟩ := HR.out.lt (by intro c; have := congrArg List.length c; simp [u16s_] at this; exact hz this)
                    refine HR7.out.keep hF8 (fun q hq c => ?_)
                    rw [e9] at hq
                    have hq2 : g9 = q := by simpa using hq
                    subst hq2
                    have h2 := HK3.out.pw
                    have h3 := HK7.out.frm.size
                    rcases c with c | c | c
                    · omega
                    · have := HK3.out.low _ c; omega
                    · omega
                have hTb : ∀ w', Frm (New w8) w8 w' → Calls Try.prog 44 #[.pointer (some ⟨pd, 0, none⟩)] w' fun e w2 => e = .returned (.pointer (some ⟨g, 0, none⟩)) ∧ w2 = w' := fun w' f => htable_any w' (hK8.de.fresh f)
                obtain ⟨At, cA, ta, tb, ew, en, hT⟩ := hK8.de.tab
                have hq : ∀ w', Frm (New w8) w8 w' → Calls Try.prog 29 #[.pointer (some ⟨g, 0, none⟩)] w' fun e w2 => e = .returned (.int .i64 T.cap) ∧ w2 = w' := fun w' f => tcap_any w' (hT.fresh f)
                clear hT
                rcases HLAST.out with hk0 | ⟨v, hv1, hv2⟩
                · subst hk0
                  have HK8 := Lib.hid hK8
                  have HTB := Lib.hid hTb
                  have HQ := Lib.hid hq
                  have HR8 := Lib.hid hR8
                  clear hK8 hTb hq hR8
                  clear hF8 hS8 hr hcap
                  go_upto_region 26 with (fail)
                  go_quiet (fail)
                  go_wp2
                  go_ret
                  exact ⟨rfl, (HK8.out.frm.drewN _).below⟩
                · rw [hcap v hv1] at hq
                  have hkp : 1 ≤ k := by
                    cases k with
                    | zero =>
                      have h9 : us = [] := List.eq_nil_of_length_eq_zero HLN.out
                      rw [h9] at hv1
                      cases hv1
                    | succ k => omega
                  have hw1 : IntKind.i64.wrap ((k : Int) - 1) = ((k - 1 : Nat) : Int) := by
                    rw [show ((k : Int) - 1) = ((k - 1 : Nat) : Int) from by omega]; exact IntWalk.i64_in _ (by omega)
                  obtain ⟨gA, oA, rfl, hx⟩ := hR8 (k - 1) (.int .u16 (v : Int)) (by simp [u16s_, hv2])
                  have hz0 : ((k : Int) == 0) = false := by rw [beq_eq_false_iff_ne]; omega
                  have hv6 := HSM.out v (List.mem_of_getElem? hv2)
                  have hwv : IntKind.i64.wrap (v : Int) = v := IntWalk.i64_in _ (by omega)
                  have hg8 := World.block_lt_of_cell? _ _ hx
                  have HK8 := Lib.hid hK8
                  have HTB := Lib.hid hTb
                  have HQ := Lib.hid hq
                  clear hK8 hTb hq
                  clear hF8 hS8 hr hcap hv1 hv2 hR8
                  go_upto_region 26 with (fail)
                  go_quiet (first
                    | (go_at_call 44; refine Calls.quiet_of_same (HTB.out _ ?_); exact (Frm.refl _ _).drewN _)
                    | (go_at_call 29; refine Calls.quiet_of_same (HQ.out _ ?_); exact (Frm.refl _ _).drewN _))
                  go_wp2
                  go_ret
                  exact ⟨rfl, (HK8.out.frm.drewN _).below⟩
end Go.Proofs.Ytcebckkpablagaa.M
