/- Qk -/
import Derived.BigQuiet
import Derived.Deep.CutBlock
import Derived.Lib.Hide
import Derived.IntWalk
import Derived.Deep.RegionHeld3
import Derived.Test.YtdgggjeiflllhaaZyQa
import Derived.Test.YtdgggjeiflllhaaZyQi
import Derived.Deep.LoopGhost
import Derived.Test.YtdgggjeiflllhaaZyMem

namespace Go.Proofs.Ytdgggjeiflllhaa.M
open Go.ChangeShapes Go.WideShapes Go.ChangeAt Go.RowKit
def litQ (nm r : Bytes) (k : Nat) : Option (Fld × Nat) := match strD (r.drop k) 7 with | (v, k2, e) => if e ≠ 0 then none else some ((nm, v), k + k2)
theorem lineQ_a {T : Tb} {count base : Nat} {r : Bytes} {i k e : Nat} (h : 192 ≤ (r.headD 0).toNat) (hq : rdp r 6 = (i, k, e)) : lineQ T count base r = if e ≠ 0 then none else (h3tab[i]?).map fun x => (x, k) := by
  unfold lineQ
  simp only [if_pos h, hq]
theorem lineQ_b {T : Tb} {count base : Nat} {r : Bytes} {i k e : Nat} (h1 : ¬ 192 ≤ (r.headD 0).toNat) (h : 128 ≤ (r.headD 0).toNat) (hq : rdp r 6 = (i, k, e)) : lineQ T count base r = if e ≠ 0 then none else (entQ T count (relQ base i)).map fun x => (x, k) := by
  unfold lineQ
  simp only [if_neg h1, if_pos h, hq]
theorem lineQ_c {T : Tb} {count base : Nat} {r : Bytes} {i k e : Nat} (h2 : ¬ 128 ≤ (r.headD 0).toNat) (h : 64 ≤ (r.headD 0).toNat) (hb : (r.headD 0).toNat / 16 % 2 = 1) (hq : rdp r 4 = (i, k, e)) : lineQ T count base r = if e ≠ 0 then none else match h3tab[i]? with | none => none | some f => litQ f.1 r k := by
  unfold lineQ
  have h1 : ¬ 192 ≤ (r.headD 0).toNat := by omega
  simp only [if_neg h1, if_neg h2, if_pos h, if_pos hb, hq]
  by_cases he : e ≠ 0
  · simp only [if_pos he]; rfl
  · simp only [if_neg he]; cases h3tab[i]? <;> rfl
theorem lineQ_d {T : Tb} {count base : Nat} {r : Bytes} {i k e : Nat} (h2 : ¬ 128 ≤ (r.headD 0).toNat) (h : 64 ≤ (r.headD 0).toNat) (hb : ¬ (r.headD 0).toNat / 16 % 2 = 1) (hq : rdp r 4 = (i, k, e)) : lineQ T count base r = if e ≠ 0 then none else match entQ T count (relQ base i) with | none => none | some f => litQ f.1 r k := by
  unfold lineQ
  have h1 : ¬ 192 ≤ (r.headD 0).toNat := by omega
  simp only [if_neg h1, if_neg h2, if_pos h, if_neg hb, hq]
  by_cases he : e ≠ 0
  · simp only [if_pos he]; rfl
  · simp only [if_neg he]; cases entQ T count (relQ base i) <;> rfl
theorem lineQ_e {T : Tb} {count base : Nat} {r s : Bytes} {k e : Nat} (h3 : ¬ 64 ≤ (r.headD 0).toNat) (h : 32 ≤ (r.headD 0).toNat) (hq : strD r 3 = (s, k, e)) : lineQ T count base r = if e ≠ 0 then none else litQ s r k := by
  unfold lineQ
  have h1 : ¬ 192 ≤ (r.headD 0).toNat := by omega
  have h2 : ¬ 128 ≤ (r.headD 0).toNat := by omega
  simp only [if_neg h1, if_neg h2, if_neg h3, if_pos h, hq]
  by_cases he : e ≠ 0
  · simp only [if_pos he]
  · simp only [if_neg he]; rfl
theorem lineQ_f {T : Tb} {count base : Nat} {r : Bytes} {i k e : Nat} (h4 : ¬ 32 ≤ (r.headD 0).toNat) (h : 16 ≤ (r.headD 0).toNat) (hq : rdp r 4 = (i, k, e)) : lineQ T count base r = if e ≠ 0 then none else (entQ T count (postQ base i)).map fun x => (x, k) := by
  unfold lineQ
  have h1 : ¬ 192 ≤ (r.headD 0).toNat := by omega
  have h2 : ¬ 128 ≤ (r.headD 0).toNat := by omega
  have h3 : ¬ 64 ≤ (r.headD 0).toNat := by omega
  simp only [if_neg h1, if_neg h2, if_neg h3, if_neg h4, if_pos h, hq]
theorem lineQ_g {T : Tb} {count base : Nat} {r : Bytes} {i k e : Nat} (h5 : ¬ 16 ≤ (r.headD 0).toNat) (hq : rdp r 3 = (i, k, e)) : lineQ T count base r = if e ≠ 0 then none else match entQ T count (postQ base i) with | none => none | some f => litQ f.1 r k := by
  unfold lineQ
  have h1 : ¬ 192 ≤ (r.headD 0).toNat := by omega
  have h2 : ¬ 128 ≤ (r.headD 0).toNat := by omega
  have h3 : ¬ 64 ≤ (r.headD 0).toNat := by omega
  have h4 : ¬ 32 ≤ (r.headD 0).toNat := by omega
  simp only [if_neg h1, if_neg h2, if_neg h3, if_neg h4, if_neg h5, hq]
  by_cases he : e ≠ 0
  · simp only [if_pos he]; rfl
  · simp only [if_neg he]; cases entQ T count (postQ base i) <;> rfl
theorem frm_pr {w w1 w2 : World} {pr : Nat} (h : Frm (fun j => j = pr ∨ New w j) w w1) (k : Frm (fun j => j = pr ∨ New w1 j) w1 w2) : Frm (fun j => j = pr ∨ New w j) w w2 := h.trans (k.mono (fun _ hj => hj.imp id (fun q => Nat.le_trans h.size q)))
theorem frm_prn {w w1 w2 : World} {pr : Nat} (h : Frm (fun j => j = pr ∨ New w j) w w1) (k : Frm (New w1) w1 w2) : Frm (fun j => j = pr ∨ New w j) w w2 := h.trans (k.mono (fun _ hj => .inr (Nat.le_trans h.size hj)))
theorem Blk.pr {w w1 w2 : World} {g pr : Nat} {t : TypeId} {cs : Array Value} (h : Blk w1 g t cs) (hp : pr < w.heap.size) (hg : w.heap.size ≤ g) (k : Frm (fun j => j = pr ∨ New w1 j) w1 w2) : Blk w2 g t cs := h.keep k (fun e => by rcases e with e | e; omega; have := h.lt; unfold New at e; omega)
theorem run_fieldq {o : Oper} {a : Act} {w : World} {x : Operand} {b1 b2 : Bytes} (ho : o.op = .field 71 x 0) (hx : a.eval x = .agg #[.string ⟨b1.toArray⟩, .string ⟨b2.toArray⟩]) : (execOp a.eval o).run Try.prog w = .ok (.value (.string ⟨b1.toArray⟩)) w := by
  unfold execOp
  rw [ho]
  simp only [hx]
  simp [Instr.field, run_underlying Try.underlying71, run_underlying Try.underlying9, part, isAgg, asAgg]
theorem RdAt.drew {w : World} {pr c : Nat} {r : Bytes} {A : Option Addr} (h : RdAt w pr r A c) : RdAt w.drew pr r A c := ⟨h.blk.drew, h.rd.drew, h.rc, h.rl, h.far⟩
theorem blk_ne {A2 : Option Addr} {gA oA gt b : Nat} (h : M.blk A2 = M.blk (some ⟨gA, oA, none⟩)) (hl : gA < b) (hb : b ≤ gt) : ∀ q, M.blk A2 = some q → ¬ q = gt := fun q hq e => by
  rw [h] at hq
  simp at hq
  omega
def LineR (w : World) (pr : Nat) (r : Bytes) (A : Option Addr) (c : Nat) (q : Option (Fld × Nat)) (e : Ending) (w' : World) : Prop :=
  match q with
  | some (f, k) => e = .returned (fld f) ∧ (∃ A2, RdAt w' pr (r.drop k) A2 (c - k) ∧ Sub A c A2 (c - k)) ∧ Frm (fun j => j = pr ∨ New w j) w w'
  | none => ∃ x, x ≠ 0 ∧ e = PQ x ∧ Frm (fun j => j = pr ∨ New w j) w w'
set_option maxRecDepth 100000 in
set_option maxHeartbeats 8000000 in
theorem qline_any {S : Nat → Prop} {g count base : Nat} {T : Tb} {pr c : Nat} {r : Bytes} {A : Option Addr} (ps pd : Nat) (w : World) (hs : Blk w ps 131 #[.pointer (some ⟨pd, 0, none⟩), .pointer (some ⟨pr, 0, none⟩), .int .u64 (count : Int), .int .u64 (base : Int)]) (hd0 : w.cell? ⟨pd, 0, none⟩ = some (.pointer (some ⟨g, 0, none⟩)))
    (hT : TabS S w g T) (hr : RdAt w pr r A c) (hne : r ≠ []) (hrS : ¬ S pr) (hpr : pr ≠ pd) (hps : pr ≠ ps) (hbase : base ≤ 4611686018427387903) :
    Calls Try.prog 66 #[.pointer (some ⟨ps, 0, none⟩)] w (LineR w pr r A c (lineQ T count base r)) := by
  have hpl := World.block_lt_of_cell? _ _ hd0
  simp only at hpl
  obtain ⟨R, hR⟩ : ∃ R, R = lineQ T count base r := ⟨_, rfl⟩
  rw [← hR]
  have hdk : ∀ w', Frm (fun j => j = pr ∨ New w j) w w' → w'.cell? ⟨pd, 0, none⟩ = some (.pointer (some ⟨g, 0, none⟩)) ∧ Blk w' ps 131 #[.pointer (some ⟨pd, 0, none⟩), .pointer (some ⟨pr, 0, none⟩), .int .u64 (count : Int), .int .u64 (base : Int)] ∧ TabS S w' g T ∧ pd < w'.heap.size := fun w' f => by
    have hk : ¬ (pd = pr ∨ New w pd) := fun e => by rcases e with e | e; exact hpr e.symm; unfold New at e; omega
    exact ⟨by rw [f.cell (p := ⟨pd, 0, none⟩) hk]; exact hd0, hs.keep f (fun e => by rcases e with e | e; exact hps e.symm; have := hs.lt; unfold New at e; omega), hT.keep f (fun k hk e => by rcases e with e | e; exact hrS (e ▸ hk); have := hT.low k hk; unfold New at e; omega), Nat.lt_of_lt_of_le hpl f.size⟩
  obtain ⟨hy0, hyl⟩ := hr.cell
  have hprl := hr.blk.lt
  have hb := hs
  have hs0 := hb.cell 0
  have hs1 := hb.cell 1
  have hs2 := hb.cell 2
  have hs3 := hb.cell 3
  simp only [List.getElem?_toArray, List.getElem?_cons_zero, List.getElem?_cons_succ] at hs0 hs1 hs2 hs3
  have hsl := hs.lt
  cases r with
  | nil => exact absurd rfl hne
  | cons b0 bt =>
    obtain ⟨gA, oA, rfl, hb0⟩ := hr.rd.at_ (k := 0) (by simp [bvs])
    simp only [bvs, List.map_cons, List.getElem_cons_zero, bv, Nat.add_zero] at hb0
    have hgl := World.block_lt_of_cell? _ _ hb0
    simp only at hgl
    have hx := b0.toNat_lt
    have hh0 : ((b0 :: bt).headD 0).toNat = b0.toNat := rfl
    have hl1 : 1 ≤ (b0 :: bt).length := by simp
    generalize b0 :: bt = r at *
    generalize b0.toNat = x at *
    have hl1j : (0 : Int) < r.length := by omega
    clear hne
    have hF0w : ∀ w', Frm (New w) w w' → Frm (fun j => j = pr ∨ New w j) w w' := fun w' f => f.mono (fun _ h => .inr h)
    have HB := Lib.hid hb
    have HDK := Lib.hid hdk
    have HF0W := Lib.hid hF0w
    have HRD := Lib.hid hr
    clear hb hdk hF0w hr
    clear hs hd0 hT hy0 hyl hs0 hs1 hs2 hs3
    by_cases h1 : 192 ≤ x
    · have q6 : (((x : Int) / 64) == 3) = true := by rw [beq_iff_eq]; omega
      have q6p : ((x : Int) / 64) = 3 := by omega
      have hstA := fun w' (h : RdAt w' pr r (some ⟨gA, oA, none⟩) c) => qnumber_any 6 h (by decide) (by decide)
      have hrg := rdp_range r 6 (by decide)
      rcases hsq : rdp r 6 with ⟨i, k, e⟩
      rw [lineQ_a (by rw [hh0]; exact h1) hsq] at hR
      rw [hsq] at hstA hrg
      simp only at hstA hrg
      unfold ReadR at hstA
      have HSTA := Lib.hid hstA
      have HR0 := Lib.hid hR
      clear hstA hR
      go_enter Try.func66, Try.ntmps66
      go_upto_region 1 with (refine wpList_new rfl rfl zFld3 rfl ?_; intro w0 ht0 hF0 hz0)
      obtain ⟨gt, hgt⟩ : ∃ q, q = w.heap.size := ⟨_, rfl⟩
      rw [← hgt] at ht0 ⊢
      replace ht0 : Blk w0 gt 71 #[.string ⟨#[]⟩, .string ⟨#[]⟩] := ht0
      have hgtw : w.heap.size ≤ gt := by omega
      clear hgt hz0
      go_upto_region 2 with (refine wpList_new rfl rfl zFld3 rfl ?_; intro w1 hf1 hF1 hz1)
      obtain ⟨gf, hgf⟩ : ∃ q, q = w0.heap.size := ⟨_, rfl⟩
      rw [← hgf] at hf1 ⊢
      replace hf1 : Blk w1 gf 71 #[.string ⟨#[]⟩, .string ⟨#[]⟩] := hf1
      have hgfw : w.heap.size ≤ gf := by have := hF0.size; omega
      have hgtf : gt ≠ gf := by have := ht0.lt; omega
      have ht1 := ht0.fresh hF1
      have hF01 := HF0W.out _ (hF0.then_new Up.new hF1)
      have hr1 := HRD.out.fresh (hF0.then_new Up.new hF1)
      have hb1 : w1.cell? ⟨gA, oA, none⟩ = some (.int .u8 (x : Int)) := by rw [(hF0.then_new Up.new hF1).cell (p := ⟨gA, oA, none⟩) (by unfold New; simp only; omega)]; exact hb0
      have hgl1 := Nat.lt_of_lt_of_le hgl (hF0.then_new Up.new hF1).size
      clear hgf hz1 ht0 hF0 hF1 hb0
      obtain ⟨hy0, hyl⟩ := hr1.cell
      obtain ⟨kd0, hsb, hT1, kpl⟩ := HDK.out w1 hF01
      have ksl := hsb.lt
      have ks0 := hsb.cell 0
      have ks1 := hsb.cell 1
      have ks2 := hsb.cell 2
      have ks3 := hsb.cell 3
      simp only [List.getElem?_toArray, List.getElem?_cons_zero, List.getElem?_cons_succ] at ks0 ks1 ks2 ks3
      clear hsb hT1
      have hgt1 := ht1.lt
      have hgf1 := hf1.lt
      have HT1 := Lib.hid ht1
      have HF1 := Lib.hid hf1
      have HF01 := Lib.hid hF01
      have HR1 := Lib.hid hr1
      clear ht1 hf1 hF01 hr1
      by_cases he : e = 0
      · subst he
        obtain ⟨g1, g2, g3⟩ := hrg rfl
        have hst := HSTA.out w1 HR1.out
        simp only [if_true] at hst
        have hR := HR0.out
        rw [if_neg (by simp)] at hR
        clear HSTA hrg HR0
        have HST := Lib.hid hst
        have HR0 := Lib.hid hR
        clear hst hR
        go_wp2_with (fail)
        refine HST.out.mono ?_
        rintro e2 w2 ⟨rfl, ⟨A2, hM2, hsb2⟩, hF2⟩
        have hF02 := frm_pr HF01.out hF2
        have ht2 := HT1.out.pr hprl hgtw hF2
        have hf2 := HF1.out.pr hprl hgfw hF2
        have HM2 := Lib.hid hM2
        have HSB2 := Lib.hid hsb2
        have HF02 := Lib.hid hF02
        have HT2 := Lib.hid ht2
        have HF2 := Lib.hid hf2
        clear hM2 hsb2 hF02 ht2 hf2
        clear hF2 HT1 HF1 HF01 HR1 HST hb1 hgl1 hy0 hyl ks0 ks1 ks2 ks3 kd0 hgt1 hgf1
        have hfx := qfixed_any i w2
        unfold FixR at hfx
        have hR := HR0.out
        clear HR0
        cases hq : h3tab[i]? with
        | none =>
          rw [hq] at hfx hR
          simp only [Option.map_none] at hfx hR
          clear hq
          have HFX := Lib.hid hfx
          have HR := Lib.hid hR
          clear hfx hR
          go_wp2_with (fail)
          refine HFX.out.mono ?_
          rintro e3 w3 ⟨rfl, hF3⟩
          unfold PQ
          go_wp2
          refine ⟨rfl, ?_⟩
          rw [HR.out]
          exact ⟨26, by decide, rfl, frm_prn HF02.out hF3⟩
        | some f =>
          obtain ⟨f1, f2⟩ := f
          rw [hq] at hfx hR
          simp only [Option.map_some, fld, str] at hfx hR
          clear hq
          have HFX := Lib.hid hfx
          have HR := Lib.hid hR
          clear hfx hR
          go_wp2_with (first
            | (go_at_call 103; refine HFX.out.mono ?_; rintro e3 w3 ⟨rfl, hF3⟩; have HT3 := Lib.hid (HT2.out.fresh hF3); have hgt3 := HT3.out.lt)
            | (refine wpList_store_agg rfl rfl rfl rfl HT3.out rfl (fld_one3 _ _) (by kernel_rfl) ?_; intro w7 ht7 f7 hz7))
          have HF03 := Lib.hid (frm_prn HF02.out hF3)
          have HM3 := Lib.hid (HM2.out.fresh hF3)
          refine bodyPost_ret (results_agg aggf rfl rfl ht7 rfl) rfl ?_
          rw [HR.out]
          exact ⟨rfl, ⟨A2, HM3.out.keep f7 (fun e => by omega) (blk_ne HSB2.out.1 hgl hgtw), HSB2.out⟩, HF03.out.trans (f7.mono (fun q h => .inr (by subst h; exact hgtw)))⟩
      · have hst := HSTA.out w1 HR1.out
        simp only [if_neg he] at hst
        have hR := HR0.out
        rw [if_pos he] at hR
        clear HSTA hrg HR0
        have HST := Lib.hid hst
        have HR := Lib.hid hR
        clear hst hR
        go_wp2_with (fail)
        refine HST.out.mono ?_
        rintro e2 w2 ⟨rfl, hF2⟩
        unfold PQ
        go_wp2
        refine ⟨rfl, ?_⟩
        rw [HR.out]
        exact ⟨_, fixE_ne e, rfl, frm_pr HF01.out hF2⟩
    by_cases h2 : 128 ≤ x
    · have q6 : (((x : Int) / 64) == 3) = false := beq_eq_false_iff_ne.2 (by omega)
      have q6p : ¬ ((x : Int) / 64) = 3 := by omega
      have q7 : (((x : Int) / 128) == 1) = true := by rw [beq_iff_eq]; omega
      have q7p : ((x : Int) / 128) = 1 := by omega
      have hstA := fun w' (h : RdAt w' pr r (some ⟨gA, oA, none⟩) c) => qnumber_any 6 h (by decide) (by decide)
      have hrg := rdp_range r 6 (by decide)
      rcases hsq : rdp r 6 with ⟨i, k, e⟩
      rw [lineQ_b (by rw [hh0]; exact h1) (by rw [hh0]; exact h2) hsq] at hR
      rw [hsq] at hstA hrg
      simp only at hstA hrg
      unfold ReadR at hstA
      have HSTA := Lib.hid hstA
      have HR0 := Lib.hid hR
      clear hstA hR
      go_enter Try.func66, Try.ntmps66
      go_upto_region 1 with (refine wpList_new rfl rfl zFld3 rfl ?_; intro w0 ht0 hF0 hz0)
      obtain ⟨gt, hgt⟩ : ∃ q, q = w.heap.size := ⟨_, rfl⟩
      rw [← hgt] at ht0 ⊢
      replace ht0 : Blk w0 gt 71 #[.string ⟨#[]⟩, .string ⟨#[]⟩] := ht0
      have hgtw : w.heap.size ≤ gt := by omega
      clear hgt hz0
      go_upto_region 2 with (refine wpList_new rfl rfl zFld3 rfl ?_; intro w1 hf1 hF1 hz1)
      obtain ⟨gf, hgf⟩ : ∃ q, q = w0.heap.size := ⟨_, rfl⟩
      rw [← hgf] at hf1 ⊢
      replace hf1 : Blk w1 gf 71 #[.string ⟨#[]⟩, .string ⟨#[]⟩] := hf1
      have hgfw : w.heap.size ≤ gf := by have := hF0.size; omega
      have hgtf : gt ≠ gf := by have := ht0.lt; omega
      have ht1 := ht0.fresh hF1
      have hF01 := HF0W.out _ (hF0.then_new Up.new hF1)
      have hr1 := HRD.out.fresh (hF0.then_new Up.new hF1)
      have hb1 : w1.cell? ⟨gA, oA, none⟩ = some (.int .u8 (x : Int)) := by rw [(hF0.then_new Up.new hF1).cell (p := ⟨gA, oA, none⟩) (by unfold New; simp only; omega)]; exact hb0
      have hgl1 := Nat.lt_of_lt_of_le hgl (hF0.then_new Up.new hF1).size
      clear hgf hz1 ht0 hF0 hF1 hb0
      obtain ⟨hy0, hyl⟩ := hr1.cell
      obtain ⟨kd0, hsb, hT1, kpl⟩ := HDK.out w1 hF01
      have ksl := hsb.lt
      have ks0 := hsb.cell 0
      have ks1 := hsb.cell 1
      have ks2 := hsb.cell 2
      have ks3 := hsb.cell 3
      simp only [List.getElem?_toArray, List.getElem?_cons_zero, List.getElem?_cons_succ] at ks0 ks1 ks2 ks3
      clear hsb hT1
      have hgt1 := ht1.lt
      have hgf1 := hf1.lt
      have HT1 := Lib.hid ht1
      have HF1 := Lib.hid hf1
      have HF01 := Lib.hid hF01
      have HR1 := Lib.hid hr1
      clear ht1 hf1 hF01 hr1
      go_upto_region 7 with (fail)
      have hS1 : w1.drew.cell? ⟨ps, 1, none⟩ = some (.pointer (some ⟨pr, 0, none⟩)) ∧ w1.drew.cell? ⟨ps, 3, none⟩ = some (.int .u64 (base : Int)) ∧ ps < w1.drew.heap.size := ⟨ks1, ks3, ksl⟩
      have hsk : ∀ w', Frm (fun j => j = pr ∨ New w j) w w' → w'.cell? ⟨ps, 1, none⟩ = some (.pointer (some ⟨pr, 0, none⟩)) ∧ w'.cell? ⟨ps, 3, none⟩ = some (.int .u64 (base : Int)) ∧ ps < w'.heap.size := fun w' f => by
        obtain ⟨_, hsb, _, _⟩ := HDK.out w' f
        exact ⟨hsb.cell 1, hsb.cell 3, hsb.lt⟩
      have hst := HSTA.out w1.drew HR1.out.drew
      have hR := HR0.out
      have HSK := Lib.hid hsk
      clear hsk
      clear HSTA HR0
      refine wp_region_held (by kernel_rfl) (S := fun w' => w'.cell? ⟨ps, 1, none⟩ = some (.pointer (some ⟨pr, 0, none⟩)) ∧ w'.cell? ⟨ps, 3, none⟩ = some (.int .u64 (base : Int)) ∧ ps < w'.heap.size) ?_
      change wpAnyH _ _ _ _ _ _ _ _ w1.drew
      refine wpAnyH_takeB (i := 0) (v := ?_) (d := some 44) rfl (by rfl) (by kernel_rfl) (fun _ _ _ h => h) (by rfl) hS1 (fun w hSw => ?_) ?_
      rotate_left
      · (try dsimp only at hSw); (try subst hSw); go_simp; first | done | (with_reducible rfl)
      simp only [Act.put, List.setIfInBounds_toArray, List.set_cons_zero, List.set_cons_succ]
      refine wpAnyH_takeB (i := 1) (v := ?_) (d := some 45) rfl (by rfl) (by kernel_rfl) (fun _ _ _ h => h) (by rfl) hS1 (fun w hSw => ?_) ?_
      rotate_left
      · (try dsimp only at hSw); (try subst hSw); go_simp; first | done | (with_reducible rfl)
      simp only [Act.put, List.setIfInBounds_toArray, List.set_cons_zero, List.set_cons_succ]
      refine wpAnyH_takeB (i := 2) (v := ?_) (d := some 46) rfl (by rfl) (by kernel_rfl) (fun _ _ _ h => h) (by rfl) hS1 (fun w hSw => ?_) ?_
      rotate_left
      · (try dsimp only at hSw); (try subst hSw); go_simp; first | done | (with_reducible rfl)
      simp only [Act.put, List.setIfInBounds_toArray, List.set_cons_zero, List.set_cons_succ]
      refine wpAnyH_takeB (i := 3) (v := ?_) (d := some 47) rfl (by rfl) (by kernel_rfl) (fun _ _ _ h => h) (by rfl) hS1 (fun w hSw => ?_) ?_
      rotate_left
      · (try dsimp only at hSw); (try subst hSw); go_simp; first | done | (with_reducible rfl)
      simp only [Act.put, List.setIfInBounds_toArray, List.set_cons_zero, List.set_cons_succ]
      refine wpAnyH_takeB (i := 4) (v := ?_) (d := some 48) rfl (by rfl) (by kernel_rfl) (fun _ _ _ h => h) (by rfl) hS1 (fun w hSw => ?_) ?_
      rotate_left
      · (try dsimp only at hSw); (try subst hSw); go_simp; first | done | (with_reducible rfl)
      simp only [Act.put, List.setIfInBounds_toArray, List.set_cons_zero, List.set_cons_succ]
      refine wpAnyH_takeB (i := 5) (v := ?_) (d := some 49) rfl (by rfl) (by kernel_rfl) (fun _ _ _ h => h) (by rfl) hS1 (fun w hSw => ?_) ?_
      rotate_left
      · (try dsimp only at hSw); (try subst hSw); go_simp; first | done | (with_reducible rfl)
      simp only [Act.put, List.setIfInBounds_toArray, List.set_cons_zero, List.set_cons_succ]
      refine wpAnyH_takeB (i := 6) (v := ?_) (d := some 50) rfl (by rfl) (by kernel_rfl) (fun _ _ _ h => h) (by rfl) hS1 (fun w hSw => ?_) ?_
      rotate_left
      · (try dsimp only at hSw); (try subst hSw); go_simp; first | done | (with_reducible rfl)
      simp only [Act.put, List.setIfInBounds_toArray, List.set_cons_zero, List.set_cons_succ]
      refine wpAnyH_takeB (i := 7) (v := ?_) (d := some 51) rfl (by rfl) (by kernel_rfl) (fun _ _ _ h => h) (by rfl) hS1 (fun w hSw => ?_) ?_
      rotate_left
      · (try dsimp only at hSw); (try subst hSw); go_simp; first | done | (with_reducible rfl)
      simp only [Act.put, List.setIfInBounds_toArray, List.set_cons_zero, List.set_cons_succ]
      refine wpAnyH_takeB (i := 8) (v := ?_) (d := some 52) rfl (by rfl) (by kernel_rfl) (fun _ _ _ h => h) (by rfl) hS1 (fun w hSw => ?_) ?_
      rotate_left
      · (try dsimp only at hSw); (try subst hSw); go_simp; first | done | (with_reducible rfl)
      simp only [Act.put, List.setIfInBounds_toArray, List.set_cons_zero, List.set_cons_succ]
      refine wpAnyH_oneB (i := 9) rfl (by kernel_rfl) (fun K hKK => ?_)
      refine Eq.mpr (if_pos (by rfl)) ?_
      by_cases he : e = 0
      · subst he
        obtain ⟨g1, g2, g3⟩ := hrg rfl
        simp only [if_true] at hst
        rw [if_neg (by simp)] at hR
        have hpl := qrel_any (base : Int) (i : Int)
        obtain ⟨hn1, hn2⟩ := qrel_nat base i
        rw [hn1, hn2] at hpl
        have hpb : (relQ base i).1 ≤ 18446744073709551615 := by unfold relQ; split <;> simp only <;> omega
        generalize relQ base i = pl at *
        obtain ⟨p, okp⟩ := pl
        simp only at hpl hpb
        clear hn1 hn2 hrg
        have HST := Lib.hid hst
        have HR0 := Lib.hid hR
        have HPL := Lib.hid hpl
        clear hst hR hpl
        go_wp2_with (fail)
        refine HST.out.mono ?_
        rintro e2 w2 ⟨rfl, ⟨A2, hM2, hsb2⟩, hF2⟩
        have hF02 := frm_pr HF01.out.drew hF2
        have ht2 := HT1.out.drew.pr hprl hgtw hF2
        have hf2 := HF1.out.drew.pr hprl hgfw hF2
        have hS2 := HSK.out w2 hF02
        have HM2 := Lib.hid hM2
        have HSB2 := Lib.hid hsb2
        have HF02 := Lib.hid hF02
        have HT2 := Lib.hid ht2
        have HF2 := Lib.hid hf2
        clear hM2 hsb2 hF02 ht2 hf2
        clear hF2 HT1 HF1 HF01 HR1 HST hb1 hgl1 hy0 hyl ks0 ks1 ks2 ks3 kd0 hgt1 hgf1 hS1
        refine hKK.out _ _ hS2 ?_
        clear hKK K
        try simp only [Act.put, List.setIfInBounds_toArray, List.set_cons_zero, List.set_cons_succ]
        refine wpAnyH_oneB (i := 10) rfl (by kernel_rfl) (fun K hKK => ?_)
        refine Eq.mpr (if_pos (by rfl)) ?_
        go_wp2_with (fail)
        refine (HPL.out w2 (by omega) (by omega) (by omega) (by omega)).mono ?_
        rintro e3 w3 ⟨rfl, rfl⟩
        refine hKK.out _ _ hS2 ?_
        clear hKK K
        try simp only [Act.put, List.setIfInBounds_toArray, List.set_cons_zero, List.set_cons_succ]
        refine wpAnyH_takeB (i := 11) (v := ?_) (d := some 55) rfl (by rfl) (by kernel_rfl) (fun _ _ _ h => h) (by rfl) hS2 (fun w hSw => ?_) ?_
        rotate_left
        · (try dsimp only at hSw); (try subst hSw); go_simp; first | done | (with_reducible rfl)
        simp only [Act.put, List.setIfInBounds_toArray, List.set_cons_zero, List.set_cons_succ]
        refine wpAnyH_takeB (i := 12) (v := ?_) (d := some 56) rfl (by rfl) (by kernel_rfl) (fun _ _ _ h => h) (by rfl) hS2 (fun w hSw => ?_) ?_
        rotate_left
        · (try dsimp only at hSw); (try subst hSw); go_simp; first | done | (with_reducible rfl)
        simp only [Act.put, List.setIfInBounds_toArray, List.set_cons_zero, List.set_cons_succ]
        obtain ⟨kd0, hsb, hT2, kpl⟩ := HDK.out w2 HF02.out
        have hen := qentry_any p okp count ps pd w2 (hsb.cell 0) (hsb.cell 2) kd0 hT2 hpb
        clear hsb hT2 kd0 kpl
        unfold FixR at hen
        have hR := HR0.out
        clear HR0
        refine wpAnyH_oneB (i := 13) rfl (by kernel_rfl) (fun K hKK => ?_)
        refine Eq.mpr (if_pos (by rfl)) ?_
        cases hq : entQ T count (p, okp) with
        | none =>
          rw [hq] at hen hR
          simp only [Option.map_none] at hen hR
          clear hq
          have HEN := Lib.hid hen
          have HR := Lib.hid hR
          clear hen hR
          go_wp2_with (fail)
          refine HEN.out.mono ?_
          rintro e3 w3 ⟨rfl, hF3⟩
          unfold PQ
          go_wp2
          refine ⟨rfl, ?_⟩
          rw [HR.out]
          exact ⟨26, by decide, rfl, frm_prn HF02.out hF3⟩
        | some f =>
          obtain ⟨f1, f2⟩ := f
          rw [hq] at hen hR
          simp only [Option.map_some, fld, str] at hen hR
          clear hq
          have HEN := Lib.hid hen
          have HRK := Lib.hid hR
          clear hen hR
          go_wp2_with (fail)
          refine HEN.out.mono ?_
          rintro e3 w3 ⟨rfl, hF3⟩
          have hF03 := frm_prn HF02.out hF3
          have hS3 := HSK.out w3 hF03
          refine hKK.out _ _ hS3 ?_
          clear hKK K
          try simp only [Act.put, List.setIfInBounds_toArray, List.set_cons_zero, List.set_cons_succ]
          have HT3 := Lib.hid (HT2.out.fresh hF3)
          refine wpAnyH_oneB (i := 14) rfl (by kernel_rfl) (fun K hKK => ?_)
          refine step_store_agg rfl rfl rfl rfl HT3.out rfl (fld_one3 _ _) (by kernel_rfl) ?_
          intro w7 ht7 f7 hz7
          have HF03 := Lib.hid hF03
          have HM3 := Lib.hid (HM2.out.fresh hF3)
          have HR := HRK
          clear hF03
          refine hKK.out _ _ (HSK.out w7 (HF03.out.trans (f7.mono (fun q h => .inr (by subst h; exact hgtw))))) ?_
          clear hKK K
          try simp only [Act.put, List.setIfInBounds_toArray]
          refine wpAnyH_done (by kernel_rfl) ?_ _
          go_wp2_with (fail)
          refine bodyPost_ret (results_agg aggf rfl rfl ht7 rfl) rfl ?_
          rw [HR.out]
          exact ⟨rfl, ⟨A2, HM3.out.keep f7 (fun e => by omega) (blk_ne HSB2.out.1 hgl hgtw), HSB2.out⟩, HF03.out.trans (f7.mono (fun q h => .inr (by subst h; exact hgtw)))⟩
      · simp only [if_neg he] at hst
        rw [if_pos he] at hR
        have HST := Lib.hid hst
        have HR := Lib.hid hR
        clear hst hR
        go_wp2_with (fail)
        refine HST.out.mono ?_
        rintro e2 w2 ⟨rfl, hF2⟩
        unfold PQ
        go_wp2
        refine ⟨rfl, ?_⟩
        rw [HR.out]
        exact ⟨_, fixE_ne e, rfl, frm_pr HF01.out.drew hF2⟩
    by_cases h3 : 64 ≤ x
    · by_cases h5 : x / 16 % 2 = 1
      · have q6 : (((x : Int) / 64) == 3) = false := beq_eq_false_iff_ne.2 (by omega)
        have q6p : ¬ ((x : Int) / 64) = 3 := by omega
        have q7 : (((x : Int) / 128) == 1) = false := beq_eq_false_iff_ne.2 (by omega)
        have q7p : ¬ ((x : Int) / 128) = 1 := by omega
        have q61 : (((x : Int) / 64) == 1) = true := by rw [beq_iff_eq]; omega
        have q61p : ((x : Int) / 64) = 1 := by omega
        have hbit : bits .and .u8 ((x : Int) / 16) 1 = 1 := by
          have := and_1_u8 x 4 hx (by decide)
          rw [show (2 : Int) ^ 4 = 16 from rfl] at this
          rw [this]
          have h : x / 2 ^ 4 % 2 = 1 := by simpa using h5
          omega
        have hstA := fun w' (h : RdAt w' pr r (some ⟨gA, oA, none⟩) c) => qnumber_any 4 h (by decide) (by decide)
        have hrg := rdp_range r 4 (by decide)
        rcases hsq : rdp r 4 with ⟨i, k, e⟩
        rw [lineQ_c (by rw [hh0]; exact h2) (by rw [hh0]; exact h3) (by rw [hh0]; exact h5) hsq] at hR
        rw [hsq] at hstA hrg
        simp only at hstA hrg
        unfold ReadR at hstA
        have HSTA := Lib.hid hstA
        have HR0 := Lib.hid hR
        clear hstA hR
        go_enter Try.func66, Try.ntmps66
        go_upto_region 1 with (refine wpList_new rfl rfl zFld3 rfl ?_; intro w0 ht0 hF0 hz0)
        obtain ⟨gt, hgt⟩ : ∃ q, q = w.heap.size := ⟨_, rfl⟩
        rw [← hgt] at ht0 ⊢
        replace ht0 : Blk w0 gt 71 #[.string ⟨#[]⟩, .string ⟨#[]⟩] := ht0
        have hgtw : w.heap.size ≤ gt := by omega
        clear hgt hz0
        go_upto_region 2 with (refine wpList_new rfl rfl zFld3 rfl ?_; intro w1 hf1 hF1 hz1)
        obtain ⟨gf, hgf⟩ : ∃ q, q = w0.heap.size := ⟨_, rfl⟩
        rw [← hgf] at hf1 ⊢
        replace hf1 : Blk w1 gf 71 #[.string ⟨#[]⟩, .string ⟨#[]⟩] := hf1
        have hgfw : w.heap.size ≤ gf := by have := hF0.size; omega
        have hgtf : gt ≠ gf := by have := ht0.lt; omega
        have ht1 := ht0.fresh hF1
        have hF01 := HF0W.out _ (hF0.then_new Up.new hF1)
        have hr1 := HRD.out.fresh (hF0.then_new Up.new hF1)
        have hb1 : w1.cell? ⟨gA, oA, none⟩ = some (.int .u8 (x : Int)) := by rw [(hF0.then_new Up.new hF1).cell (p := ⟨gA, oA, none⟩) (by unfold New; simp only; omega)]; exact hb0
        have hgl1 := Nat.lt_of_lt_of_le hgl (hF0.then_new Up.new hF1).size
        clear hgf hz1 ht0 hF0 hF1 hb0
        obtain ⟨hy0, hyl⟩ := hr1.cell
        obtain ⟨kd0, hsb, hT1, kpl⟩ := HDK.out w1 hF01
        have ksl := hsb.lt
        have ks0 := hsb.cell 0
        have ks1 := hsb.cell 1
        have ks2 := hsb.cell 2
        have ks3 := hsb.cell 3
        simp only [List.getElem?_toArray, List.getElem?_cons_zero, List.getElem?_cons_succ] at ks0 ks1 ks2 ks3
        clear hsb hT1
        have hgt1 := ht1.lt
        have hgf1 := hf1.lt
        have HT1 := Lib.hid ht1
        have HF1 := Lib.hid hf1
        have HF01 := Lib.hid hF01
        have HR1 := Lib.hid hr1
        clear ht1 hf1 hF01 hr1
        by_cases he : e = 0
        · subst he
          obtain ⟨g1, g2, g3⟩ := hrg rfl
          have hst := HSTA.out w1 HR1.out
          simp only [if_true] at hst
          have hR := HR0.out
          rw [if_neg (by simp)] at hR
          clear HSTA hrg HR0
          have HST := Lib.hid hst
          have HR0 := Lib.hid hR
          clear hst hR
          go_wp2_with (fail)
          refine HST.out.mono ?_
          rintro e2 w2 ⟨rfl, ⟨A2, hM2, hsb2⟩, hF2⟩
          have hF02 := frm_pr HF01.out hF2
          have ht2 := HT1.out.pr hprl hgtw hF2
          have hf2 := HF1.out.pr hprl hgfw hF2
          have HM2 := Lib.hid hM2
          have HSB2 := Lib.hid hsb2
          have HF02 := Lib.hid hF02
          have HT2 := Lib.hid ht2
          have HF2 := Lib.hid hf2
          clear hM2 hsb2 hF02 ht2 hf2
          clear hF2 HT1 HF1 HF01 HR1 HST hb1 hgl1 hy0 hyl ks0 ks1 ks2 ks3 kd0 hgt1 hgf1
          have hfx := qfixed_any i w2
          unfold FixR at hfx
          have hR := HR0.out
          clear HR0
          cases hq : h3tab[i]? with
          | none =>
            rw [hq] at hfx hR
            simp only at hfx hR
            clear hq
            have HFX := Lib.hid hfx
            have HR := Lib.hid hR
            clear hfx hR
            go_wp2_with (fail)
            refine HFX.out.mono ?_
            rintro e3 w3 ⟨rfl, hF3⟩
            unfold PQ
            go_wp2
            refine ⟨rfl, ?_⟩
            rw [HR.out]
            exact ⟨26, by decide, rfl, frm_prn HF02.out hF3⟩
          | some f =>
            obtain ⟨f1, f2⟩ := f
            rw [hq] at hfx hR
            simp only [fld, str] at hfx hR
            clear hq
            have HFX := Lib.hid hfx
            have HRK := Lib.hid hR
            clear hfx hR
            go_wp2_with (fail)
            refine HFX.out.mono ?_
            rintro e3 w3 ⟨rfl, hF3⟩
            have hg3 := HF2.out.fresh hF3
            have hgl3 := hg3.lt
            have hc0 := hg3.cell 0
            simp only [List.getElem?_toArray, List.getElem?_cons_zero] at hc0
            have hz0 := hg3.frozen 0
            have hg4 := hg3.set_ 0 (.string ⟨f1.toArray⟩)
            simp only [List.setIfInBounds_toArray, List.set_cons_zero] at hg4
            have f4 : Frm (fun k => k = gf) w3 (w3.setCell ⟨gf, 0, none⟩ (.string ⟨f1.toArray⟩)) := (Frm.refl (fun k => k = gf) w3).setCell (p := ⟨gf, 0, none⟩) rfl _
            have HG4 := Lib.hid hg4
            have HT4 := Lib.hid ((HT2.out.fresh hF3).keep f4 (fun e => hgtf e))
            have HM4 := Lib.hid ((HM2.out.fresh hF3).keep f4 (fun e => by omega) (blk_ne HSB2.out.1 hgl hgfw))
            have HF04 := Lib.hid ((frm_prn HF02.out hF3).trans (f4.mono (fun q h => .inr (by subst h; exact hgfw))))
            have HSB4 := HSB2
            clear hg3 hg4 f4 HT2 HF2 HM2 HF02 hF3 HSB2
            go_upto_region 16 with (refine wpList_val rfl (.string ⟨f1.toArray⟩) (run_fieldq rfl rfl) ?_)
            generalize w3.setCell ⟨gf, 0, none⟩ (.string ⟨f1.toArray⟩) = w4 at *
            clear hc0 hz0 hgl3
            have hva := qvalue_any HM4.out
            have hvl := strD_range (r.drop k) 7 (by decide)
            rcases hsv : strD (r.drop k) 7 with ⟨v, k2, e2⟩
            rw [hsv] at hva hvl
            have hRk := HRK.out
            unfold litQ at hRk
            rw [hsv] at hRk
            simp only [str] at hva hvl hRk
            unfold ReadR at hva
            obtain ⟨hyp0, hypl⟩ := HM4.out.cell
            obtain ⟨kd0, hsb, hT4, kpl⟩ := HDK.out w4 HF04.out
            have ksl := hsb.lt
            have ks1 := hsb.cell 1
            simp only [List.getElem?_toArray, List.getElem?_cons_zero, List.getElem?_cons_succ] at ks1
            clear hsb hT4 HRK
            by_cases he2 : e2 = 0
            · subst he2
              simp only [if_true] at hva
              rw [if_neg (by simp)] at hRk
              have HVA := Lib.hid hva
              have HR := Lib.hid hRk
              clear hva hRk
              go_wp2_with (fail)
              refine HVA.out.mono ?_
              rintro e5 w5 ⟨rfl, ⟨A5, hM5, hsb5⟩, hF5⟩
              have hF05 := frm_pr HF04.out hF5
              have hg5 := HG4.out.pr hprl hgfw hF5
              have ht5 := HT4.out.pr hprl hgtw hF5
              have hgf5 := hg5.lt
              have hc0 := hg5.cell 0
              have hc1 := hg5.cell 1
              simp only [List.getElem?_toArray, List.getElem?_cons_zero, List.getElem?_cons_succ] at hc0 hc1
              have hz1 := hg5.frozen 1
              have hg6 := hg5.set_ 1 (.string ⟨v.toArray⟩)
              simp only [List.setIfInBounds_toArray, List.set_cons_zero, List.set_cons_succ] at hg6
              have f6 : Frm (fun k => k = gf) w5 (w5.setCell ⟨gf, 1, none⟩ (.string ⟨v.toArray⟩)) := (Frm.refl (fun k => k = gf) w5).setCell (p := ⟨gf, 1, none⟩) rfl _
              have ht6 := ht5.keep f6 (fun e => hgtf e)
              have HG6 := Lib.hid hg6
              have F6 := Lib.hid f6
              have HT6 := Lib.hid ht6
              have HM5 := Lib.hid hM5
              have HSB5 := Lib.hid hsb5
              have HF05 := Lib.hid hF05
              clear hg6 f6 ht6 hM5 hsb5 hF05
              clear hg5 ht5 hF5
              go_wp2_with (first
                | (refine wpList_load_agg aggf rfl rfl rfl HG6.out rfl ?_)
                | (refine wpList_store_agg rfl rfl rfl rfl HT6.out rfl (fld_one3 _ _) (by kernel_rfl) ?_; intro w7 ht7 f7 hz7))
              refine bodyPost_ret (results_agg aggf rfl rfl ht7 rfl) rfl ?_
              rw [HR.out]
              have hk : ∀ q, w.heap.size ≤ q → ¬ (pr = q) := fun q h e => by omega
              have hM7 := (HM5.out.keep F6.out (hk _ hgfw) (blk_ne (HSB5.out.1.trans HSB4.out.1) hgl hgfw)).keep f7 (hk _ hgtw) (blk_ne (HSB5.out.1.trans HSB4.out.1) hgl hgtw)
              have hs7 := HSB5.out.trans HSB4.out
              rw [List.drop_drop, Nat.sub_sub] at hM7
              rw [Nat.sub_sub] at hs7
              exact ⟨rfl, ⟨A5, hM7, hs7⟩, (HF05.out.trans (F6.out.mono (fun q h => .inr (by subst h; exact hgfw)))).trans (f7.mono (fun q h => .inr (by subst h; exact hgtw)))⟩
            · simp only [if_neg he2] at hva
              rw [if_pos he2] at hRk
              have HVA := Lib.hid hva
              have HR := Lib.hid hRk
              clear hva hRk
              go_wp2_with (fail)
              refine HVA.out.mono ?_
              rintro e5 w5 ⟨rfl, hF5⟩
              unfold PQ
              go_wp2
              refine ⟨rfl, ?_⟩
              rw [HR.out]
              exact ⟨_, fixE_ne e2, rfl, frm_pr HF04.out hF5⟩
        · have hst := HSTA.out w1 HR1.out
          simp only [if_neg he] at hst
          have hR := HR0.out
          rw [if_pos he] at hR
          clear HSTA hrg HR0
          have HST := Lib.hid hst
          have HR := Lib.hid hR
          clear hst hR
          go_wp2_with (fail)
          refine HST.out.mono ?_
          rintro e2 w2 ⟨rfl, hF2⟩
          unfold PQ
          go_wp2
          refine ⟨rfl, ?_⟩
          rw [HR.out]
          exact ⟨_, fixE_ne e, rfl, frm_pr HF01.out hF2⟩
      · have q6 : (((x : Int) / 64) == 3) = false := beq_eq_false_iff_ne.2 (by omega)
        have q6p : ¬ ((x : Int) / 64) = 3 := by omega
        have q7 : (((x : Int) / 128) == 1) = false := beq_eq_false_iff_ne.2 (by omega)
        have q7p : ¬ ((x : Int) / 128) = 1 := by omega
        have q61 : (((x : Int) / 64) == 1) = true := by rw [beq_iff_eq]; omega
        have q61p : ((x : Int) / 64) = 1 := by omega
        have hbit : bits .and .u8 ((x : Int) / 16) 1 = 0 := by
          have := and_1_u8 x 4 hx (by decide)
          rw [show (2 : Int) ^ 4 = 16 from rfl] at this
          rw [this]
          have h : ¬ x / 2 ^ 4 % 2 = 1 := by simpa using h5
          omega
        have hstA := fun w' (h : RdAt w' pr r (some ⟨gA, oA, none⟩) c) => qnumber_any 4 h (by decide) (by decide)
        have hrg := rdp_range r 4 (by decide)
        rcases hsq : rdp r 4 with ⟨i, k, e⟩
        rw [lineQ_d (by rw [hh0]; exact h2) (by rw [hh0]; exact h3) (by rw [hh0]; exact h5) hsq] at hR
        rw [hsq] at hstA hrg
        simp only at hstA hrg
        unfold ReadR at hstA
        have HSTA := Lib.hid hstA
        have HR0 := Lib.hid hR
        clear hstA hR
        go_enter Try.func66, Try.ntmps66
        go_upto_region 1 with (refine wpList_new rfl rfl zFld3 rfl ?_; intro w0 ht0 hF0 hz0)
        obtain ⟨gt, hgt⟩ : ∃ q, q = w.heap.size := ⟨_, rfl⟩
        rw [← hgt] at ht0 ⊢
        replace ht0 : Blk w0 gt 71 #[.string ⟨#[]⟩, .string ⟨#[]⟩] := ht0
        have hgtw : w.heap.size ≤ gt := by omega
        clear hgt hz0
        go_upto_region 2 with (refine wpList_new rfl rfl zFld3 rfl ?_; intro w1 hf1 hF1 hz1)
        obtain ⟨gf, hgf⟩ : ∃ q, q = w0.heap.size := ⟨_, rfl⟩
        rw [← hgf] at hf1 ⊢
        replace hf1 : Blk w1 gf 71 #[.string ⟨#[]⟩, .string ⟨#[]⟩] := hf1
        have hgfw : w.heap.size ≤ gf := by have := hF0.size; omega
        have hgtf : gt ≠ gf := by have := ht0.lt; omega
        have ht1 := ht0.fresh hF1
        have hF01 := HF0W.out _ (hF0.then_new Up.new hF1)
        have hr1 := HRD.out.fresh (hF0.then_new Up.new hF1)
        have hb1 : w1.cell? ⟨gA, oA, none⟩ = some (.int .u8 (x : Int)) := by rw [(hF0.then_new Up.new hF1).cell (p := ⟨gA, oA, none⟩) (by unfold New; simp only; omega)]; exact hb0
        have hgl1 := Nat.lt_of_lt_of_le hgl (hF0.then_new Up.new hF1).size
        clear hgf hz1 ht0 hF0 hF1 hb0
        obtain ⟨hy0, hyl⟩ := hr1.cell
        obtain ⟨kd0, hsb, hT1, kpl⟩ := HDK.out w1 hF01
        have ksl := hsb.lt
        have ks0 := hsb.cell 0
        have ks1 := hsb.cell 1
        have ks2 := hsb.cell 2
        have ks3 := hsb.cell 3
        simp only [List.getElem?_toArray, List.getElem?_cons_zero, List.getElem?_cons_succ] at ks0 ks1 ks2 ks3
        clear hsb hT1
        have hgt1 := ht1.lt
        have hgf1 := hf1.lt
        have HT1 := Lib.hid ht1
        have HF1 := Lib.hid hf1
        have HF01 := Lib.hid hF01
        have HR1 := Lib.hid hr1
        clear ht1 hf1 hF01 hr1
        go_upto_region 11 with (fail)
        have hS1 : w1.drew.cell? ⟨ps, 1, none⟩ = some (.pointer (some ⟨pr, 0, none⟩)) ∧ w1.drew.cell? ⟨ps, 3, none⟩ = some (.int .u64 (base : Int)) ∧ ps < w1.drew.heap.size := ⟨ks1, ks3, ksl⟩
        have hsk : ∀ w', Frm (fun j => j = pr ∨ New w j) w w' → w'.cell? ⟨ps, 1, none⟩ = some (.pointer (some ⟨pr, 0, none⟩)) ∧ w'.cell? ⟨ps, 3, none⟩ = some (.int .u64 (base : Int)) ∧ ps < w'.heap.size := fun w' f => by
          obtain ⟨_, hsb, _, _⟩ := HDK.out w' f
          exact ⟨hsb.cell 1, hsb.cell 3, hsb.lt⟩
        have hst := HSTA.out w1.drew HR1.out.drew
        have hR := HR0.out
        have HSK := Lib.hid hsk
        clear hsk
        clear HSTA HR0
        refine wp_region_held (by kernel_rfl) (S := fun w' => w'.cell? ⟨ps, 1, none⟩ = some (.pointer (some ⟨pr, 0, none⟩)) ∧ w'.cell? ⟨ps, 3, none⟩ = some (.int .u64 (base : Int)) ∧ ps < w'.heap.size) ?_
        change wpAnyH _ _ _ _ _ _ _ _ w1.drew
        refine wpAnyH_takeB (i := 0) (v := ?_) (d := some 80) rfl (by rfl) (by kernel_rfl) (fun _ _ _ h => h) (by rfl) hS1 (fun w hSw => ?_) ?_
        rotate_left
        · (try dsimp only at hSw); (try subst hSw); go_simp; first | done | (with_reducible rfl)
        simp only [Act.put, List.setIfInBounds_toArray, List.set_cons_zero, List.set_cons_succ]
        refine wpAnyH_takeB (i := 1) (v := ?_) (d := some 81) rfl (by rfl) (by kernel_rfl) (fun _ _ _ h => h) (by rfl) hS1 (fun w hSw => ?_) ?_
        rotate_left
        · (try dsimp only at hSw); (try subst hSw); go_simp; first | done | (with_reducible rfl)
        simp only [Act.put, List.setIfInBounds_toArray, List.set_cons_zero, List.set_cons_succ]
        refine wpAnyH_takeB (i := 2) (v := ?_) (d := some 82) rfl (by rfl) (by kernel_rfl) (fun _ _ _ h => h) (by rfl) hS1 (fun w hSw => ?_) ?_
        rotate_left
        · (try dsimp only at hSw); (try subst hSw); go_simp; first | done | (with_reducible rfl)
        simp only [Act.put, List.setIfInBounds_toArray, List.set_cons_zero, List.set_cons_succ]
        refine wpAnyH_takeB (i := 3) (v := ?_) (d := some 83) rfl (by rfl) (by kernel_rfl) (fun _ _ _ h => h) (by rfl) hS1 (fun w hSw => ?_) ?_
        rotate_left
        · (try dsimp only at hSw); (try subst hSw); go_simp; first | done | (with_reducible rfl)
        simp only [Act.put, List.setIfInBounds_toArray, List.set_cons_zero, List.set_cons_succ]
        refine wpAnyH_takeB (i := 4) (v := ?_) (d := some 84) rfl (by rfl) (by kernel_rfl) (fun _ _ _ h => h) (by rfl) hS1 (fun w hSw => ?_) ?_
        rotate_left
        · (try dsimp only at hSw); (try subst hSw); go_simp; first | done | (with_reducible rfl)
        simp only [Act.put, List.setIfInBounds_toArray, List.set_cons_zero, List.set_cons_succ]
        refine wpAnyH_takeB (i := 5) (v := ?_) (d := some 85) rfl (by rfl) (by kernel_rfl) (fun _ _ _ h => h) (by rfl) hS1 (fun w hSw => ?_) ?_
        rotate_left
        · (try dsimp only at hSw); (try subst hSw); go_simp; first | done | (with_reducible rfl)
        simp only [Act.put, List.setIfInBounds_toArray, List.set_cons_zero, List.set_cons_succ]
        refine wpAnyH_takeB (i := 6) (v := ?_) (d := some 86) rfl (by rfl) (by kernel_rfl) (fun _ _ _ h => h) (by rfl) hS1 (fun w hSw => ?_) ?_
        rotate_left
        · (try dsimp only at hSw); (try subst hSw); go_simp; first | done | (with_reducible rfl)
        simp only [Act.put, List.setIfInBounds_toArray, List.set_cons_zero, List.set_cons_succ]
        refine wpAnyH_takeB (i := 7) (v := ?_) (d := some 87) rfl (by rfl) (by kernel_rfl) (fun _ _ _ h => h) (by rfl) hS1 (fun w hSw => ?_) ?_
        rotate_left
        · (try dsimp only at hSw); (try subst hSw); go_simp; first | done | (with_reducible rfl)
        simp only [Act.put, List.setIfInBounds_toArray, List.set_cons_zero, List.set_cons_succ]
        refine wpAnyH_takeB (i := 8) (v := ?_) (d := some 88) rfl (by rfl) (by kernel_rfl) (fun _ _ _ h => h) (by rfl) hS1 (fun w hSw => ?_) ?_
        rotate_left
        · (try dsimp only at hSw); (try subst hSw); go_simp; first | done | (with_reducible rfl)
        simp only [Act.put, List.setIfInBounds_toArray, List.set_cons_zero, List.set_cons_succ]
        refine wpAnyH_oneB (i := 9) rfl (by kernel_rfl) (fun K hKK => ?_)
        refine Eq.mpr (if_pos (by rfl)) ?_
        by_cases he : e = 0
        · subst he
          obtain ⟨g1, g2, g3⟩ := hrg rfl
          simp only [if_true] at hst
          rw [if_neg (by simp)] at hR
          have hpl := qrel_any (base : Int) (i : Int)
          obtain ⟨hn1, hn2⟩ := qrel_nat base i
          rw [hn1, hn2] at hpl
          have hpb : (relQ base i).1 ≤ 18446744073709551615 := by unfold relQ; split <;> simp only <;> omega
          generalize relQ base i = pl at *
          obtain ⟨p, okp⟩ := pl
          simp only at hpl hpb
          clear hn1 hn2 hrg
          have HST := Lib.hid hst
          have HR0 := Lib.hid hR
          have HPL := Lib.hid hpl
          clear hst hR hpl
          go_wp2_with (fail)
          refine HST.out.mono ?_
          rintro e2 w2 ⟨rfl, ⟨A2, hM2, hsb2⟩, hF2⟩
          have hF02 := frm_pr HF01.out.drew hF2
          have ht2 := HT1.out.drew.pr hprl hgtw hF2
          have hf2 := HF1.out.drew.pr hprl hgfw hF2
          have hS2 := HSK.out w2 hF02
          have HM2 := Lib.hid hM2
          have HSB2 := Lib.hid hsb2
          have HF02 := Lib.hid hF02
          have HT2 := Lib.hid ht2
          have HF2 := Lib.hid hf2
          clear hM2 hsb2 hF02 ht2 hf2
          clear hF2 HT1 HF1 HF01 HR1 HST hb1 hgl1 hy0 hyl ks0 ks1 ks2 ks3 kd0 hgt1 hgf1 hS1
          refine hKK.out _ _ hS2 ?_
          clear hKK K
          try simp only [Act.put, List.setIfInBounds_toArray, List.set_cons_zero, List.set_cons_succ]
          refine wpAnyH_oneB (i := 10) rfl (by kernel_rfl) (fun K hKK => ?_)
          refine Eq.mpr (if_pos (by rfl)) ?_
          go_wp2_with (fail)
          refine (HPL.out w2 (by omega) (by omega) (by omega) (by omega)).mono ?_
          rintro e3 w3 ⟨rfl, rfl⟩
          refine hKK.out _ _ hS2 ?_
          clear hKK K
          try simp only [Act.put, List.setIfInBounds_toArray, List.set_cons_zero, List.set_cons_succ]
          refine wpAnyH_takeB (i := 11) (v := ?_) (d := some 91) rfl (by rfl) (by kernel_rfl) (fun _ _ _ h => h) (by rfl) hS2 (fun w hSw => ?_) ?_
          rotate_left
          · (try dsimp only at hSw); (try subst hSw); go_simp; first | done | (with_reducible rfl)
          simp only [Act.put, List.setIfInBounds_toArray, List.set_cons_zero, List.set_cons_succ]
          refine wpAnyH_takeB (i := 12) (v := ?_) (d := some 92) rfl (by rfl) (by kernel_rfl) (fun _ _ _ h => h) (by rfl) hS2 (fun w hSw => ?_) ?_
          rotate_left
          · (try dsimp only at hSw); (try subst hSw); go_simp; first | done | (with_reducible rfl)
          simp only [Act.put, List.setIfInBounds_toArray, List.set_cons_zero, List.set_cons_succ]
          obtain ⟨kd0, hsb, hT2, kpl⟩ := HDK.out w2 HF02.out
          have hen := qentry_any p okp count ps pd w2 (hsb.cell 0) (hsb.cell 2) kd0 hT2 hpb
          clear hsb hT2 kd0 kpl
          unfold FixR at hen
          have hR := HR0.out
          clear HR0
          refine wpAnyH_oneB (i := 13) rfl (by kernel_rfl) (fun K hKK => ?_)
          refine Eq.mpr (if_pos (by rfl)) ?_
          cases hq : entQ T count (p, okp) with
          | none =>
            rw [hq] at hen hR
            simp only at hen hR
            clear hq
            have HEN := Lib.hid hen
            have HR := Lib.hid hR
            clear hen hR
            go_wp2_with (fail)
            refine HEN.out.mono ?_
            rintro e3 w3 ⟨rfl, hF3⟩
            unfold PQ
            go_wp2
            refine ⟨rfl, ?_⟩
            rw [HR.out]
            exact ⟨26, by decide, rfl, frm_prn HF02.out hF3⟩
          | some f =>
            obtain ⟨f1, f2⟩ := f
            rw [hq] at hen hR
            simp only [fld, str] at hen hR
            clear hq
            have HEN := Lib.hid hen
            have HRK := Lib.hid hR
            clear hen hR
            go_wp2_with (fail)
            refine HEN.out.mono ?_
            rintro e3 w3 ⟨rfl, hF3⟩
            have hF03 := frm_prn HF02.out hF3
            have hS3 := HSK.out w3 hF03
            refine hKK.out _ _ hS3 ?_
            clear hKK K
            try simp only [Act.put, List.setIfInBounds_toArray, List.set_cons_zero, List.set_cons_succ]
            refine wpAnyH_takeB (i := 14) (v := .string ⟨f1.toArray⟩) (d := some 94) rfl (by rfl) (by kernel_rfl) (fun _ _ _ h => h) (by rfl) hS3 (fun w hSw => run_fieldq rfl rfl) ?_
            simp only [Act.put, List.setIfInBounds_toArray, List.set_cons_zero, List.set_cons_succ]
            refine wpAnyH_takeB (i := 15) (v := ?_) (d := some 95) rfl (by rfl) (by kernel_rfl) (fun _ _ _ h => h) (by rfl) hS3 (fun w hSw => ?_) ?_
            rotate_left
            · (try dsimp only at hSw); (try subst hSw); go_simp; first | done | (with_reducible rfl)
            simp only [Act.put, List.setIfInBounds_toArray, List.set_cons_zero, List.set_cons_succ]
            have hg3 := HF2.out.fresh hF3
            have hgl3 := hg3.lt
            have hc0 := hg3.cell 0
            simp only [List.getElem?_toArray, List.getElem?_cons_zero] at hc0
            have hz0 := hg3.frozen 0
            have hg4 := hg3.set_ 0 (.string ⟨f1.toArray⟩)
            simp only [List.setIfInBounds_toArray, List.set_cons_zero] at hg4
            have f4 : Frm (fun k => k = gf) w3 (w3.setCell ⟨gf, 0, none⟩ (.string ⟨f1.toArray⟩)) := (Frm.refl (fun k => k = gf) w3).setCell (p := ⟨gf, 0, none⟩) rfl _
            have hF04 := hF03.trans (f4.mono (fun q h => .inr (by subst h; exact hgfw)))
            have hS4 := HSK.out _ hF04
            have HG4 := Lib.hid hg4
            have HT4 := Lib.hid ((HT2.out.fresh hF3).keep f4 (fun e => hgtf e))
            have HM4 := Lib.hid ((HM2.out.fresh hF3).keep f4 (fun e => by omega) (blk_ne HSB2.out.1 hgl hgfw))
            have HF04 := Lib.hid hF04
            have HSB4 := HSB2
            clear hg3 hg4 f4 HT2 HF2 HM2 HF02 hF3 HSB2 hF03 hF04
            refine wpAnyH_oneB (i := 16) rfl (by kernel_rfl) (fun K hK => ?_)
            refine Eq.mpr (if_pos (by rfl)) ?_
            go_simp
            refine hK.out _ _ (hS4) ?_
            clear hK K
            try simp only [Act.put, List.setIfInBounds_toArray, List.set_cons_zero, List.set_cons_succ]
            refine wpAnyH_done (by kernel_rfl) ?_ _
            go_upto_region 16 with (fail)
            generalize w3.setCell ⟨gf, 0, none⟩ (.string ⟨f1.toArray⟩) = w4 at *
            clear hc0 hz0 hgl3 hS4 hS3
            have hva := qvalue_any HM4.out
            have hvl := strD_range (r.drop k) 7 (by decide)
            rcases hsv : strD (r.drop k) 7 with ⟨v, k2, e2⟩
            rw [hsv] at hva hvl
            have hRk := HRK.out
            unfold litQ at hRk
            rw [hsv] at hRk
            simp only [str] at hva hvl hRk
            unfold ReadR at hva
            obtain ⟨hyp0, hypl⟩ := HM4.out.cell
            obtain ⟨kd0, hsb, hT4, kpl⟩ := HDK.out w4 HF04.out
            have ksl := hsb.lt
            have ks1 := hsb.cell 1
            simp only [List.getElem?_toArray, List.getElem?_cons_zero, List.getElem?_cons_succ] at ks1
            clear hsb hT4 HRK
            by_cases he2 : e2 = 0
            · subst he2
              simp only [if_true] at hva
              rw [if_neg (by simp)] at hRk
              have HVA := Lib.hid hva
              have HR := Lib.hid hRk
              clear hva hRk
              go_wp2_with (fail)
              refine HVA.out.mono ?_
              rintro e5 w5 ⟨rfl, ⟨A5, hM5, hsb5⟩, hF5⟩
              have hF05 := frm_pr HF04.out hF5
              have hg5 := HG4.out.pr hprl hgfw hF5
              have ht5 := HT4.out.pr hprl hgtw hF5
              have hgf5 := hg5.lt
              have hc0 := hg5.cell 0
              have hc1 := hg5.cell 1
              simp only [List.getElem?_toArray, List.getElem?_cons_zero, List.getElem?_cons_succ] at hc0 hc1
              have hz1 := hg5.frozen 1
              have hg6 := hg5.set_ 1 (.string ⟨v.toArray⟩)
              simp only [List.setIfInBounds_toArray, List.set_cons_zero, List.set_cons_succ] at hg6
              have f6 : Frm (fun k => k = gf) w5 (w5.setCell ⟨gf, 1, none⟩ (.string ⟨v.toArray⟩)) := (Frm.refl (fun k => k = gf) w5).setCell (p := ⟨gf, 1, none⟩) rfl _
              have ht6 := ht5.keep f6 (fun e => hgtf e)
              have HG6 := Lib.hid hg6
              have F6 := Lib.hid f6
              have HT6 := Lib.hid ht6
              have HM5 := Lib.hid hM5
              have HSB5 := Lib.hid hsb5
              have HF05 := Lib.hid hF05
              clear hg6 f6 ht6 hM5 hsb5 hF05
              clear hg5 ht5 hF5
              go_wp2_with (first
                | (refine wpList_load_agg aggf rfl rfl rfl HG6.out rfl ?_)
                | (refine wpList_store_agg rfl rfl rfl rfl HT6.out rfl (fld_one3 _ _) (by kernel_rfl) ?_; intro w7 ht7 f7 hz7))
              refine bodyPost_ret (results_agg aggf rfl rfl ht7 rfl) rfl ?_
              rw [HR.out]
              have hk : ∀ q, w.heap.size ≤ q → ¬ (pr = q) := fun q h e => by omega
              have hM7 := (HM5.out.keep F6.out (hk _ hgfw) (blk_ne (HSB5.out.1.trans HSB4.out.1) hgl hgfw)).keep f7 (hk _ hgtw) (blk_ne (HSB5.out.1.trans HSB4.out.1) hgl hgtw)
              have hs7 := HSB5.out.trans HSB4.out
              rw [List.drop_drop, Nat.sub_sub] at hM7
              rw [Nat.sub_sub] at hs7
              exact ⟨rfl, ⟨A5, hM7, hs7⟩, (HF05.out.trans (F6.out.mono (fun q h => .inr (by subst h; exact hgfw)))).trans (f7.mono (fun q h => .inr (by subst h; exact hgtw)))⟩
            · simp only [if_neg he2] at hva
              rw [if_pos he2] at hRk
              have HVA := Lib.hid hva
              have HR := Lib.hid hRk
              clear hva hRk
              go_wp2_with (fail)
              refine HVA.out.mono ?_
              rintro e5 w5 ⟨rfl, hF5⟩
              unfold PQ
              go_wp2
              refine ⟨rfl, ?_⟩
              rw [HR.out]
              exact ⟨_, fixE_ne e2, rfl, frm_pr HF04.out hF5⟩
        · simp only [if_neg he] at hst
          rw [if_pos he] at hR
          have HST := Lib.hid hst
          have HR := Lib.hid hR
          clear hst hR
          go_wp2_with (fail)
          refine HST.out.mono ?_
          rintro e2 w2 ⟨rfl, hF2⟩
          unfold PQ
          go_wp2
          refine ⟨rfl, ?_⟩
          rw [HR.out]
          exact ⟨_, fixE_ne e, rfl, frm_pr HF01.out.drew hF2⟩
    by_cases h4 : 32 ≤ x
    · have q6 : (((x : Int) / 64) == 3) = false := beq_eq_false_iff_ne.2 (by omega)
      have q6p : ¬ ((x : Int) / 64) = 3 := by omega
      have q7 : (((x : Int) / 128) == 1) = false := beq_eq_false_iff_ne.2 (by omega)
      have q7p : ¬ ((x : Int) / 128) = 1 := by omega
      have q61 : (((x : Int) / 64) == 1) = false := beq_eq_false_iff_ne.2 (by omega)
      have q61p : ¬ ((x : Int) / 64) = 1 := by omega
      have q5 : (((x : Int) / 32) == 1) = true := by rw [beq_iff_eq]; omega
      have q5p : ((x : Int) / 32) = 1 := by omega
      have hstA := fun w' (h : RdAt w' pr r (some ⟨gA, oA, none⟩) c) => qstr3_any h
      rcases hsq : strD r 3 with ⟨nm, k, e⟩
      rw [lineQ_e (by rw [hh0]; exact h3) (by rw [hh0]; exact h4) hsq] at hR
      rw [hsq] at hstA
      simp only [str] at hstA
      unfold ReadR at hstA
      have HSTA := Lib.hid hstA
      have HR0 := Lib.hid hR
      clear hstA hR
      go_enter Try.func66, Try.ntmps66
      go_upto_region 1 with (refine wpList_new rfl rfl zFld3 rfl ?_; intro w0 ht0 hF0 hz0)
      obtain ⟨gt, hgt⟩ : ∃ q, q = w.heap.size := ⟨_, rfl⟩
      rw [← hgt] at ht0 ⊢
      replace ht0 : Blk w0 gt 71 #[.string ⟨#[]⟩, .string ⟨#[]⟩] := ht0
      have hgtw : w.heap.size ≤ gt := by omega
      clear hgt hz0
      go_upto_region 2 with (refine wpList_new rfl rfl zFld3 rfl ?_; intro w1 hf1 hF1 hz1)
      obtain ⟨gf, hgf⟩ : ∃ q, q = w0.heap.size := ⟨_, rfl⟩
      rw [← hgf] at hf1 ⊢
      replace hf1 : Blk w1 gf 71 #[.string ⟨#[]⟩, .string ⟨#[]⟩] := hf1
      have hgfw : w.heap.size ≤ gf := by have := hF0.size; omega
      have hgtf : gt ≠ gf := by have := ht0.lt; omega
      have ht1 := ht0.fresh hF1
      have hF01 := HF0W.out _ (hF0.then_new Up.new hF1)
      have hr1 := HRD.out.fresh (hF0.then_new Up.new hF1)
      have hb1 : w1.cell? ⟨gA, oA, none⟩ = some (.int .u8 (x : Int)) := by rw [(hF0.then_new Up.new hF1).cell (p := ⟨gA, oA, none⟩) (by unfold New; simp only; omega)]; exact hb0
      have hgl1 := Nat.lt_of_lt_of_le hgl (hF0.then_new Up.new hF1).size
      clear hgf hz1 ht0 hF0 hF1 hb0
      obtain ⟨hy0, hyl⟩ := hr1.cell
      obtain ⟨kd0, hsb, hT1, kpl⟩ := HDK.out w1 hF01
      have ksl := hsb.lt
      have ks0 := hsb.cell 0
      have ks1 := hsb.cell 1
      have ks2 := hsb.cell 2
      have ks3 := hsb.cell 3
      simp only [List.getElem?_toArray, List.getElem?_cons_zero, List.getElem?_cons_succ] at ks0 ks1 ks2 ks3
      clear hsb hT1
      have hgt1 := ht1.lt
      have hgf1 := hf1.lt
      have HT1 := Lib.hid ht1
      have HF1 := Lib.hid hf1
      have HF01 := Lib.hid hF01
      have HR1 := Lib.hid hr1
      clear ht1 hf1 hF01 hr1
      have hst := HSTA.out w1 HR1.out
      have hR := HR0.out
      clear HSTA HR0
      by_cases he : e = 0
      · subst he
        simp only [if_true] at hst
        rw [if_neg (by simp)] at hR
        have HST := Lib.hid hst
        have HRK := Lib.hid hR
        clear hst hR
        go_wp2_with (fail)
        refine HST.out.mono ?_
        rintro e3 w3 ⟨rfl, ⟨A2, hM2, hsb2⟩, hF3⟩
        have hg3 := HF1.out.pr hprl hgfw hF3
        have hgl3 := hg3.lt
        have hc0 := hg3.cell 0
        simp only [List.getElem?_toArray, List.getElem?_cons_zero] at hc0
        have hz0 := hg3.frozen 0
        have hg4 := hg3.set_ 0 (.string ⟨nm.toArray⟩)
        simp only [List.setIfInBounds_toArray, List.set_cons_zero] at hg4
        have f4 : Frm (fun k => k = gf) w3 (w3.setCell ⟨gf, 0, none⟩ (.string ⟨nm.toArray⟩)) := (Frm.refl (fun k => k = gf) w3).setCell (p := ⟨gf, 0, none⟩) rfl _
        have HG4 := Lib.hid hg4
        have HT4 := Lib.hid ((HT1.out.pr hprl hgtw hF3).keep f4 (fun e => hgtf e))
        have HM4 := Lib.hid (hM2.keep f4 (fun e => by omega) (blk_ne hsb2.1 hgl hgfw))
        have HF04 := Lib.hid ((frm_pr HF01.out hF3).trans (f4.mono (fun q h => .inr (by subst h; exact hgfw))))
        have HSB4 := Lib.hid hsb2
        clear hg3 hg4 f4 HT1 HF1 hM2 HF01 hF3 hsb2 HST HR1 hb1 hgl1 hy0 hyl ks0 ks1 ks2 ks3 kd0 hgt1 hgf1
        go_upto_region 16 with (fail)
        generalize w3.setCell ⟨gf, 0, none⟩ (.string ⟨nm.toArray⟩) = w4 at *
        clear hc0 hz0 hgl3
        have hva := qvalue_any HM4.out
        have hvl := strD_range (r.drop k) 7 (by decide)
        rcases hsv : strD (r.drop k) 7 with ⟨v, k2, e2⟩
        rw [hsv] at hva hvl
        have hRk := HRK.out
        unfold litQ at hRk
        rw [hsv] at hRk
        simp only [str] at hva hvl hRk
        unfold ReadR at hva
        obtain ⟨hyp0, hypl⟩ := HM4.out.cell
        obtain ⟨kd0, hsb, hT4, kpl⟩ := HDK.out w4 HF04.out
        have ksl := hsb.lt
        have ks1 := hsb.cell 1
        simp only [List.getElem?_toArray, List.getElem?_cons_zero, List.getElem?_cons_succ] at ks1
        clear hsb hT4 HRK
        by_cases he2 : e2 = 0
        · subst he2
          simp only [if_true] at hva
          rw [if_neg (by simp)] at hRk
          have HVA := Lib.hid hva
          have HR := Lib.hid hRk
          clear hva hRk
          go_wp2_with (fail)
          refine HVA.out.mono ?_
          rintro e5 w5 ⟨rfl, ⟨A5, hM5, hsb5⟩, hF5⟩
          have hF05 := frm_pr HF04.out hF5
          have hg5 := HG4.out.pr hprl hgfw hF5
          have ht5 := HT4.out.pr hprl hgtw hF5
          have hgf5 := hg5.lt
          have hc0 := hg5.cell 0
          have hc1 := hg5.cell 1
          simp only [List.getElem?_toArray, List.getElem?_cons_zero, List.getElem?_cons_succ] at hc0 hc1
          have hz1 := hg5.frozen 1
          have hg6 := hg5.set_ 1 (.string ⟨v.toArray⟩)
          simp only [List.setIfInBounds_toArray, List.set_cons_zero, List.set_cons_succ] at hg6
          have f6 : Frm (fun k => k = gf) w5 (w5.setCell ⟨gf, 1, none⟩ (.string ⟨v.toArray⟩)) := (Frm.refl (fun k => k = gf) w5).setCell (p := ⟨gf, 1, none⟩) rfl _
          have ht6 := ht5.keep f6 (fun e => hgtf e)
          have HG6 := Lib.hid hg6
          have F6 := Lib.hid f6
          have HT6 := Lib.hid ht6
          have HM5 := Lib.hid hM5
          have HSB5 := Lib.hid hsb5
          have HF05 := Lib.hid hF05
          clear hg6 f6 ht6 hM5 hsb5 hF05
          clear hg5 ht5 hF5
          go_wp2_with (first
            | (refine wpList_load_agg aggf rfl rfl rfl HG6.out rfl ?_)
            | (refine wpList_store_agg rfl rfl rfl rfl HT6.out rfl (fld_one3 _ _) (by kernel_rfl) ?_; intro w7 ht7 f7 hz7))
          refine bodyPost_ret (results_agg aggf rfl rfl ht7 rfl) rfl ?_
          rw [HR.out]
          have hk : ∀ q, w.heap.size ≤ q → ¬ (pr = q) := fun q h e => by omega
          have hM7 := (HM5.out.keep F6.out (hk _ hgfw) (blk_ne (HSB5.out.1.trans HSB4.out.1) hgl hgfw)).keep f7 (hk _ hgtw) (blk_ne (HSB5.out.1.trans HSB4.out.1) hgl hgtw)
          have hs7 := HSB5.out.trans HSB4.out
          rw [List.drop_drop, Nat.sub_sub] at hM7
          rw [Nat.sub_sub] at hs7
          exact ⟨rfl, ⟨A5, hM7, hs7⟩, (HF05.out.trans (F6.out.mono (fun q h => .inr (by subst h; exact hgfw)))).trans (f7.mono (fun q h => .inr (by subst h; exact hgtw)))⟩
        · simp only [if_neg he2] at hva
          rw [if_pos he2] at hRk
          have HVA := Lib.hid hva
          have HR := Lib.hid hRk
          clear hva hRk
          go_wp2_with (fail)
          refine HVA.out.mono ?_
          rintro e5 w5 ⟨rfl, hF5⟩
          unfold PQ
          go_wp2
          refine ⟨rfl, ?_⟩
          rw [HR.out]
          exact ⟨_, fixE_ne e2, rfl, frm_pr HF04.out hF5⟩
      · simp only [if_neg he] at hst
        rw [if_pos he] at hR
        have HST := Lib.hid hst
        have HR := Lib.hid hR
        clear hst hR
        go_wp2_with (fail)
        refine HST.out.mono ?_
        rintro e2 w2 ⟨rfl, hF2⟩
        unfold PQ
        go_wp2
        refine ⟨rfl, ?_⟩
        rw [HR.out]
        exact ⟨_, fixE_ne e, rfl, frm_pr HF01.out hF2⟩
    by_cases h6 : 16 ≤ x
    · have q6 : (((x : Int) / 64) == 3) = false := beq_eq_false_iff_ne.2 (by omega)
      have q6p : ¬ ((x : Int) / 64) = 3 := by omega
      have q7 : (((x : Int) / 128) == 1) = false := beq_eq_false_iff_ne.2 (by omega)
      have q7p : ¬ ((x : Int) / 128) = 1 := by omega
      have q61 : (((x : Int) / 64) == 1) = false := beq_eq_false_iff_ne.2 (by omega)
      have q61p : ¬ ((x : Int) / 64) = 1 := by omega
      have q5 : (((x : Int) / 32) == 1) = false := beq_eq_false_iff_ne.2 (by omega)
      have q5p : ¬ ((x : Int) / 32) = 1 := by omega
      have q4 : (((x : Int) / 16) == 1) = true := by rw [beq_iff_eq]; omega
      have q4p : ((x : Int) / 16) = 1 := by omega
      have hstA := fun w' (h : RdAt w' pr r (some ⟨gA, oA, none⟩) c) => qnumber_any 4 h (by decide) (by decide)
      have hrg := rdp_range r 4 (by decide)
      rcases hsq : rdp r 4 with ⟨i, k, e⟩
      rw [lineQ_f (by rw [hh0]; exact h4) (by rw [hh0]; exact h6) hsq] at hR
      rw [hsq] at hstA hrg
      simp only at hstA hrg
      unfold ReadR at hstA
      have HSTA := Lib.hid hstA
      have HR0 := Lib.hid hR
      clear hstA hR
      go_enter Try.func66, Try.ntmps66
      go_upto_region 1 with (refine wpList_new rfl rfl zFld3 rfl ?_; intro w0 ht0 hF0 hz0)
      obtain ⟨gt, hgt⟩ : ∃ q, q = w.heap.size := ⟨_, rfl⟩
      rw [← hgt] at ht0 ⊢
      replace ht0 : Blk w0 gt 71 #[.string ⟨#[]⟩, .string ⟨#[]⟩] := ht0
      have hgtw : w.heap.size ≤ gt := by omega
      clear hgt hz0
      go_upto_region 2 with (refine wpList_new rfl rfl zFld3 rfl ?_; intro w1 hf1 hF1 hz1)
      obtain ⟨gf, hgf⟩ : ∃ q, q = w0.heap.size := ⟨_, rfl⟩
      rw [← hgf] at hf1 ⊢
      replace hf1 : Blk w1 gf 71 #[.string ⟨#[]⟩, .string ⟨#[]⟩] := hf1
      have hgfw : w.heap.size ≤ gf := by have := hF0.size; omega
      have hgtf : gt ≠ gf := by have := ht0.lt; omega
      have ht1 := ht0.fresh hF1
      have hF01 := HF0W.out _ (hF0.then_new Up.new hF1)
      have hr1 := HRD.out.fresh (hF0.then_new Up.new hF1)
      have hb1 : w1.cell? ⟨gA, oA, none⟩ = some (.int .u8 (x : Int)) := by rw [(hF0.then_new Up.new hF1).cell (p := ⟨gA, oA, none⟩) (by unfold New; simp only; omega)]; exact hb0
      have hgl1 := Nat.lt_of_lt_of_le hgl (hF0.then_new Up.new hF1).size
      clear hgf hz1 ht0 hF0 hF1 hb0
      obtain ⟨hy0, hyl⟩ := hr1.cell
      obtain ⟨kd0, hsb, hT1, kpl⟩ := HDK.out w1 hF01
      have ksl := hsb.lt
      have ks0 := hsb.cell 0
      have ks1 := hsb.cell 1
      have ks2 := hsb.cell 2
      have ks3 := hsb.cell 3
      simp only [List.getElem?_toArray, List.getElem?_cons_zero, List.getElem?_cons_succ] at ks0 ks1 ks2 ks3
      clear hsb hT1
      have hgt1 := ht1.lt
      have hgf1 := hf1.lt
      have HT1 := Lib.hid ht1
      have HF1 := Lib.hid hf1
      have HF01 := Lib.hid hF01
      have HR1 := Lib.hid hr1
      clear ht1 hf1 hF01 hr1
      go_upto_region 15 with (fail)
      have hS1 : w1.drew.cell? ⟨ps, 1, none⟩ = some (.pointer (some ⟨pr, 0, none⟩)) ∧ w1.drew.cell? ⟨ps, 3, none⟩ = some (.int .u64 (base : Int)) ∧ ps < w1.drew.heap.size := ⟨ks1, ks3, ksl⟩
      have hsk : ∀ w', Frm (fun j => j = pr ∨ New w j) w w' → w'.cell? ⟨ps, 1, none⟩ = some (.pointer (some ⟨pr, 0, none⟩)) ∧ w'.cell? ⟨ps, 3, none⟩ = some (.int .u64 (base : Int)) ∧ ps < w'.heap.size := fun w' f => by
        obtain ⟨_, hsb, _, _⟩ := HDK.out w' f
        exact ⟨hsb.cell 1, hsb.cell 3, hsb.lt⟩
      have hst := HSTA.out w1.drew HR1.out.drew
      have hR := HR0.out
      have HSK := Lib.hid hsk
      clear hsk
      clear HSTA HR0
      refine wp_region_held (by kernel_rfl) (S := fun w' => w'.cell? ⟨ps, 1, none⟩ = some (.pointer (some ⟨pr, 0, none⟩)) ∧ w'.cell? ⟨ps, 3, none⟩ = some (.int .u64 (base : Int)) ∧ ps < w'.heap.size) ?_
      change wpAnyH _ _ _ _ _ _ _ _ w1.drew
      refine wpAnyH_takeB (i := 0) (v := ?_) (d := some 110) rfl (by rfl) (by kernel_rfl) (fun _ _ _ h => h) (by rfl) hS1 (fun w hSw => ?_) ?_
      rotate_left
      · (try dsimp only at hSw); (try subst hSw); go_simp; first | done | (with_reducible rfl)
      simp only [Act.put, List.setIfInBounds_toArray, List.set_cons_zero, List.set_cons_succ]
      refine wpAnyH_takeB (i := 1) (v := ?_) (d := some 111) rfl (by rfl) (by kernel_rfl) (fun _ _ _ h => h) (by rfl) hS1 (fun w hSw => ?_) ?_
      rotate_left
      · (try dsimp only at hSw); (try subst hSw); go_simp; first | done | (with_reducible rfl)
      simp only [Act.put, List.setIfInBounds_toArray, List.set_cons_zero, List.set_cons_succ]
      refine wpAnyH_takeB (i := 2) (v := ?_) (d := some 112) rfl (by rfl) (by kernel_rfl) (fun _ _ _ h => h) (by rfl) hS1 (fun w hSw => ?_) ?_
      rotate_left
      · (try dsimp only at hSw); (try subst hSw); go_simp; first | done | (with_reducible rfl)
      simp only [Act.put, List.setIfInBounds_toArray, List.set_cons_zero, List.set_cons_succ]
      refine wpAnyH_takeB (i := 3) (v := ?_) (d := some 113) rfl (by rfl) (by kernel_rfl) (fun _ _ _ h => h) (by rfl) hS1 (fun w hSw => ?_) ?_
      rotate_left
      · (try dsimp only at hSw); (try subst hSw); go_simp; first | done | (with_reducible rfl)
      simp only [Act.put, List.setIfInBounds_toArray, List.set_cons_zero, List.set_cons_succ]
      refine wpAnyH_takeB (i := 4) (v := ?_) (d := some 114) rfl (by rfl) (by kernel_rfl) (fun _ _ _ h => h) (by rfl) hS1 (fun w hSw => ?_) ?_
      rotate_left
      · (try dsimp only at hSw); (try subst hSw); go_simp; first | done | (with_reducible rfl)
      simp only [Act.put, List.setIfInBounds_toArray, List.set_cons_zero, List.set_cons_succ]
      refine wpAnyH_takeB (i := 5) (v := ?_) (d := some 115) rfl (by rfl) (by kernel_rfl) (fun _ _ _ h => h) (by rfl) hS1 (fun w hSw => ?_) ?_
      rotate_left
      · (try dsimp only at hSw); (try subst hSw); go_simp; first | done | (with_reducible rfl)
      simp only [Act.put, List.setIfInBounds_toArray, List.set_cons_zero, List.set_cons_succ]
      refine wpAnyH_takeB (i := 6) (v := ?_) (d := some 116) rfl (by rfl) (by kernel_rfl) (fun _ _ _ h => h) (by rfl) hS1 (fun w hSw => ?_) ?_
      rotate_left
      · (try dsimp only at hSw); (try subst hSw); go_simp; first | done | (with_reducible rfl)
      simp only [Act.put, List.setIfInBounds_toArray, List.set_cons_zero, List.set_cons_succ]
      refine wpAnyH_takeB (i := 7) (v := ?_) (d := some 117) rfl (by rfl) (by kernel_rfl) (fun _ _ _ h => h) (by rfl) hS1 (fun w hSw => ?_) ?_
      rotate_left
      · (try dsimp only at hSw); (try subst hSw); go_simp; first | done | (with_reducible rfl)
      simp only [Act.put, List.setIfInBounds_toArray, List.set_cons_zero, List.set_cons_succ]
      refine wpAnyH_takeB (i := 8) (v := ?_) (d := some 118) rfl (by rfl) (by kernel_rfl) (fun _ _ _ h => h) (by rfl) hS1 (fun w hSw => ?_) ?_
      rotate_left
      · (try dsimp only at hSw); (try subst hSw); go_simp; first | done | (with_reducible rfl)
      simp only [Act.put, List.setIfInBounds_toArray, List.set_cons_zero, List.set_cons_succ]
      refine wpAnyH_oneB (i := 9) rfl (by kernel_rfl) (fun K hKK => ?_)
      refine Eq.mpr (if_pos (by rfl)) ?_
      by_cases he : e = 0
      · subst he
        obtain ⟨g1, g2, g3⟩ := hrg rfl
        simp only [if_true] at hst
        rw [if_neg (by simp)] at hR
        have hpl := qpost_any (base : Int) (i : Int)
        obtain ⟨hn1, hn2⟩ := qpost_nat base i
        rw [hn1, hn2] at hpl
        have hpb : (postQ base i).1 ≤ 18446744073709551615 := by unfold postQ; split <;> simp only <;> omega
        generalize postQ base i = pl at *
        obtain ⟨p, okp⟩ := pl
        simp only at hpl hpb
        clear hn1 hn2 hrg
        have HST := Lib.hid hst
        have HR0 := Lib.hid hR
        have HPL := Lib.hid hpl
        clear hst hR hpl
        go_wp2_with (fail)
        refine HST.out.mono ?_
        rintro e2 w2 ⟨rfl, ⟨A2, hM2, hsb2⟩, hF2⟩
        have hF02 := frm_pr HF01.out.drew hF2
        have ht2 := HT1.out.drew.pr hprl hgtw hF2
        have hf2 := HF1.out.drew.pr hprl hgfw hF2
        have hS2 := HSK.out w2 hF02
        have HM2 := Lib.hid hM2
        have HSB2 := Lib.hid hsb2
        have HF02 := Lib.hid hF02
        have HT2 := Lib.hid ht2
        have HF2 := Lib.hid hf2
        clear hM2 hsb2 hF02 ht2 hf2
        clear hF2 HT1 HF1 HF01 HR1 HST hb1 hgl1 hy0 hyl ks0 ks1 ks2 ks3 kd0 hgt1 hgf1 hS1
        refine hKK.out _ _ hS2 ?_
        clear hKK K
        try simp only [Act.put, List.setIfInBounds_toArray, List.set_cons_zero, List.set_cons_succ]
        refine wpAnyH_oneB (i := 10) rfl (by kernel_rfl) (fun K hKK => ?_)
        refine Eq.mpr (if_pos (by rfl)) ?_
        go_wp2_with (fail)
        refine (HPL.out w2 (by omega) (by omega) (by omega) (by omega)).mono ?_
        rintro e3 w3 ⟨rfl, rfl⟩
        refine hKK.out _ _ hS2 ?_
        clear hKK K
        try simp only [Act.put, List.setIfInBounds_toArray, List.set_cons_zero, List.set_cons_succ]
        refine wpAnyH_takeB (i := 11) (v := ?_) (d := some 121) rfl (by rfl) (by kernel_rfl) (fun _ _ _ h => h) (by rfl) hS2 (fun w hSw => ?_) ?_
        rotate_left
        · (try dsimp only at hSw); (try subst hSw); go_simp; first | done | (with_reducible rfl)
        simp only [Act.put, List.setIfInBounds_toArray, List.set_cons_zero, List.set_cons_succ]
        refine wpAnyH_takeB (i := 12) (v := ?_) (d := some 122) rfl (by rfl) (by kernel_rfl) (fun _ _ _ h => h) (by rfl) hS2 (fun w hSw => ?_) ?_
        rotate_left
        · (try dsimp only at hSw); (try subst hSw); go_simp; first | done | (with_reducible rfl)
        simp only [Act.put, List.setIfInBounds_toArray, List.set_cons_zero, List.set_cons_succ]
        obtain ⟨kd0, hsb, hT2, kpl⟩ := HDK.out w2 HF02.out
        have hen := qentry_any p okp count ps pd w2 (hsb.cell 0) (hsb.cell 2) kd0 hT2 hpb
        clear hsb hT2 kd0 kpl
        unfold FixR at hen
        have hR := HR0.out
        clear HR0
        refine wpAnyH_oneB (i := 13) rfl (by kernel_rfl) (fun K hKK => ?_)
        refine Eq.mpr (if_pos (by rfl)) ?_
        cases hq : entQ T count (p, okp) with
        | none =>
          rw [hq] at hen hR
          simp only [Option.map_none] at hen hR
          clear hq
          have HEN := Lib.hid hen
          have HR := Lib.hid hR
          clear hen hR
          go_wp2_with (fail)
          refine HEN.out.mono ?_
          rintro e3 w3 ⟨rfl, hF3⟩
          unfold PQ
          go_wp2
          refine ⟨rfl, ?_⟩
          rw [HR.out]
          exact ⟨26, by decide, rfl, frm_prn HF02.out hF3⟩
        | some f =>
          obtain ⟨f1, f2⟩ := f
          rw [hq] at hen hR
          simp only [Option.map_some, fld, str] at hen hR
          clear hq
          have HEN := Lib.hid hen
          have HRK := Lib.hid hR
          clear hen hR
          go_wp2_with (fail)
          refine HEN.out.mono ?_
          rintro e3 w3 ⟨rfl, hF3⟩
          have hF03 := frm_prn HF02.out hF3
          have hS3 := HSK.out w3 hF03
          refine hKK.out _ _ hS3 ?_
          clear hKK K
          try simp only [Act.put, List.setIfInBounds_toArray, List.set_cons_zero, List.set_cons_succ]
          have HT3 := Lib.hid (HT2.out.fresh hF3)
          refine wpAnyH_oneB (i := 14) rfl (by kernel_rfl) (fun K hKK => ?_)
          refine step_store_agg rfl rfl rfl rfl HT3.out rfl (fld_one3 _ _) (by kernel_rfl) ?_
          intro w7 ht7 f7 hz7
          have HF03 := Lib.hid hF03
          have HM3 := Lib.hid (HM2.out.fresh hF3)
          have HR := HRK
          clear hF03
          refine hKK.out _ _ (HSK.out w7 (HF03.out.trans (f7.mono (fun q h => .inr (by subst h; exact hgtw))))) ?_
          clear hKK K
          try simp only [Act.put, List.setIfInBounds_toArray]
          refine wpAnyH_done (by kernel_rfl) ?_ _
          go_wp2_with (fail)
          refine bodyPost_ret (results_agg aggf rfl rfl ht7 rfl) rfl ?_
          rw [HR.out]
          exact ⟨rfl, ⟨A2, HM3.out.keep f7 (fun e => by omega) (blk_ne HSB2.out.1 hgl hgtw), HSB2.out⟩, HF03.out.trans (f7.mono (fun q h => .inr (by subst h; exact hgtw)))⟩
      · simp only [if_neg he] at hst
        rw [if_pos he] at hR
        have HST := Lib.hid hst
        have HR := Lib.hid hR
        clear hst hR
        go_wp2_with (fail)
        refine HST.out.mono ?_
        rintro e2 w2 ⟨rfl, hF2⟩
        unfold PQ
        go_wp2
        refine ⟨rfl, ?_⟩
        rw [HR.out]
        exact ⟨_, fixE_ne e, rfl, frm_pr HF01.out.drew hF2⟩
    · have q6 : (((x : Int) / 64) == 3) = false := beq_eq_false_iff_ne.2 (by omega)
      have q6p : ¬ ((x : Int) / 64) = 3 := by omega
      have q7 : (((x : Int) / 128) == 1) = false := beq_eq_false_iff_ne.2 (by omega)
      have q7p : ¬ ((x : Int) / 128) = 1 := by omega
      have q61 : (((x : Int) / 64) == 1) = false := beq_eq_false_iff_ne.2 (by omega)
      have q61p : ¬ ((x : Int) / 64) = 1 := by omega
      have q5 : (((x : Int) / 32) == 1) = false := beq_eq_false_iff_ne.2 (by omega)
      have q5p : ¬ ((x : Int) / 32) = 1 := by omega
      have q4 : (((x : Int) / 16) == 1) = false := beq_eq_false_iff_ne.2 (by omega)
      have q4p : ¬ ((x : Int) / 16) = 1 := by omega
      have hstA := fun w' (h : RdAt w' pr r (some ⟨gA, oA, none⟩) c) => qnumber_any 3 h (by decide) (by decide)
      have hrg := rdp_range r 3 (by decide)
      rcases hsq : rdp r 3 with ⟨i, k, e⟩
      rw [lineQ_g (by rw [hh0]; exact h6) hsq] at hR
      rw [hsq] at hstA hrg
      simp only at hstA hrg
      unfold ReadR at hstA
      have HSTA := Lib.hid hstA
      have HR0 := Lib.hid hR
      clear hstA hR
      go_enter Try.func66, Try.ntmps66
      go_upto_region 1 with (refine wpList_new rfl rfl zFld3 rfl ?_; intro w0 ht0 hF0 hz0)
      obtain ⟨gt, hgt⟩ : ∃ q, q = w.heap.size := ⟨_, rfl⟩
      rw [← hgt] at ht0 ⊢
      replace ht0 : Blk w0 gt 71 #[.string ⟨#[]⟩, .string ⟨#[]⟩] := ht0
      have hgtw : w.heap.size ≤ gt := by omega
      clear hgt hz0
      go_upto_region 2 with (refine wpList_new rfl rfl zFld3 rfl ?_; intro w1 hf1 hF1 hz1)
      obtain ⟨gf, hgf⟩ : ∃ q, q = w0.heap.size := ⟨_, rfl⟩
      rw [← hgf] at hf1 ⊢
      replace hf1 : Blk w1 gf 71 #[.string ⟨#[]⟩, .string ⟨#[]⟩] := hf1
      have hgfw : w.heap.size ≤ gf := by have := hF0.size; omega
      have hgtf : gt ≠ gf := by have := ht0.lt; omega
      have ht1 := ht0.fresh hF1
      have hF01 := HF0W.out _ (hF0.then_new Up.new hF1)
      have hr1 := HRD.out.fresh (hF0.then_new Up.new hF1)
      have hb1 : w1.cell? ⟨gA, oA, none⟩ = some (.int .u8 (x : Int)) := by rw [(hF0.then_new Up.new hF1).cell (p := ⟨gA, oA, none⟩) (by unfold New; simp only; omega)]; exact hb0
      have hgl1 := Nat.lt_of_lt_of_le hgl (hF0.then_new Up.new hF1).size
      clear hgf hz1 ht0 hF0 hF1 hb0
      obtain ⟨hy0, hyl⟩ := hr1.cell
      obtain ⟨kd0, hsb, hT1, kpl⟩ := HDK.out w1 hF01
      have ksl := hsb.lt
      have ks0 := hsb.cell 0
      have ks1 := hsb.cell 1
      have ks2 := hsb.cell 2
      have ks3 := hsb.cell 3
      simp only [List.getElem?_toArray, List.getElem?_cons_zero, List.getElem?_cons_succ] at ks0 ks1 ks2 ks3
      clear hsb hT1
      have hgt1 := ht1.lt
      have hgf1 := hf1.lt
      have HT1 := Lib.hid ht1
      have HF1 := Lib.hid hf1
      have HF01 := Lib.hid hF01
      have HR1 := Lib.hid hr1
      clear ht1 hf1 hF01 hr1
      go_upto_region 3 with (fail)
      have hS1 : w1.drew.cell? ⟨ps, 1, none⟩ = some (.pointer (some ⟨pr, 0, none⟩)) ∧ w1.drew.cell? ⟨ps, 3, none⟩ = some (.int .u64 (base : Int)) ∧ ps < w1.drew.heap.size := ⟨ks1, ks3, ksl⟩
      have hsk : ∀ w', Frm (fun j => j = pr ∨ New w j) w w' → w'.cell? ⟨ps, 1, none⟩ = some (.pointer (some ⟨pr, 0, none⟩)) ∧ w'.cell? ⟨ps, 3, none⟩ = some (.int .u64 (base : Int)) ∧ ps < w'.heap.size := fun w' f => by
        obtain ⟨_, hsb, _, _⟩ := HDK.out w' f
        exact ⟨hsb.cell 1, hsb.cell 3, hsb.lt⟩
      have hst := HSTA.out w1.drew HR1.out.drew
      have hR := HR0.out
      have HSK := Lib.hid hsk
      clear hsk
      clear HSTA HR0
      refine wp_region_held (by kernel_rfl) (S := fun w' => w'.cell? ⟨ps, 1, none⟩ = some (.pointer (some ⟨pr, 0, none⟩)) ∧ w'.cell? ⟨ps, 3, none⟩ = some (.int .u64 (base : Int)) ∧ ps < w'.heap.size) ?_
      change wpAnyH _ _ _ _ _ _ _ _ w1.drew
      refine wpAnyH_takeB (i := 0) (v := ?_) (d := some 14) rfl (by rfl) (by kernel_rfl) (fun _ _ _ h => h) (by rfl) hS1 (fun w hSw => ?_) ?_
      rotate_left
      · (try dsimp only at hSw); (try subst hSw); go_simp; first | done | (with_reducible rfl)
      simp only [Act.put, List.setIfInBounds_toArray, List.set_cons_zero, List.set_cons_succ]
      refine wpAnyH_takeB (i := 1) (v := ?_) (d := some 15) rfl (by rfl) (by kernel_rfl) (fun _ _ _ h => h) (by rfl) hS1 (fun w hSw => ?_) ?_
      rotate_left
      · (try dsimp only at hSw); (try subst hSw); go_simp; first | done | (with_reducible rfl)
      simp only [Act.put, List.setIfInBounds_toArray, List.set_cons_zero, List.set_cons_succ]
      refine wpAnyH_takeB (i := 2) (v := ?_) (d := some 16) rfl (by rfl) (by kernel_rfl) (fun _ _ _ h => h) (by rfl) hS1 (fun w hSw => ?_) ?_
      rotate_left
      · (try dsimp only at hSw); (try subst hSw); go_simp; first | done | (with_reducible rfl)
      simp only [Act.put, List.setIfInBounds_toArray, List.set_cons_zero, List.set_cons_succ]
      refine wpAnyH_takeB (i := 3) (v := ?_) (d := some 17) rfl (by rfl) (by kernel_rfl) (fun _ _ _ h => h) (by rfl) hS1 (fun w hSw => ?_) ?_
      rotate_left
      · (try dsimp only at hSw); (try subst hSw); go_simp; first | done | (with_reducible rfl)
      simp only [Act.put, List.setIfInBounds_toArray, List.set_cons_zero, List.set_cons_succ]
      refine wpAnyH_takeB (i := 4) (v := ?_) (d := some 18) rfl (by rfl) (by kernel_rfl) (fun _ _ _ h => h) (by rfl) hS1 (fun w hSw => ?_) ?_
      rotate_left
      · (try dsimp only at hSw); (try subst hSw); go_simp; first | done | (with_reducible rfl)
      simp only [Act.put, List.setIfInBounds_toArray, List.set_cons_zero, List.set_cons_succ]
      refine wpAnyH_takeB (i := 5) (v := ?_) (d := some 19) rfl (by rfl) (by kernel_rfl) (fun _ _ _ h => h) (by rfl) hS1 (fun w hSw => ?_) ?_
      rotate_left
      · (try dsimp only at hSw); (try subst hSw); go_simp; first | done | (with_reducible rfl)
      simp only [Act.put, List.setIfInBounds_toArray, List.set_cons_zero, List.set_cons_succ]
      refine wpAnyH_takeB (i := 6) (v := ?_) (d := some 20) rfl (by rfl) (by kernel_rfl) (fun _ _ _ h => h) (by rfl) hS1 (fun w hSw => ?_) ?_
      rotate_left
      · (try dsimp only at hSw); (try subst hSw); go_simp; first | done | (with_reducible rfl)
      simp only [Act.put, List.setIfInBounds_toArray, List.set_cons_zero, List.set_cons_succ]
      refine wpAnyH_takeB (i := 7) (v := ?_) (d := some 21) rfl (by rfl) (by kernel_rfl) (fun _ _ _ h => h) (by rfl) hS1 (fun w hSw => ?_) ?_
      rotate_left
      · (try dsimp only at hSw); (try subst hSw); go_simp; first | done | (with_reducible rfl)
      simp only [Act.put, List.setIfInBounds_toArray, List.set_cons_zero, List.set_cons_succ]
      refine wpAnyH_takeB (i := 8) (v := ?_) (d := some 22) rfl (by rfl) (by kernel_rfl) (fun _ _ _ h => h) (by rfl) hS1 (fun w hSw => ?_) ?_
      rotate_left
      · (try dsimp only at hSw); (try subst hSw); go_simp; first | done | (with_reducible rfl)
      simp only [Act.put, List.setIfInBounds_toArray, List.set_cons_zero, List.set_cons_succ]
      refine wpAnyH_oneB (i := 9) rfl (by kernel_rfl) (fun K hKK => ?_)
      refine Eq.mpr (if_pos (by rfl)) ?_
      by_cases he : e = 0
      · subst he
        obtain ⟨g1, g2, g3⟩ := hrg rfl
        simp only [if_true] at hst
        rw [if_neg (by simp)] at hR
        have hpl := qpost_any (base : Int) (i : Int)
        obtain ⟨hn1, hn2⟩ := qpost_nat base i
        rw [hn1, hn2] at hpl
        have hpb : (postQ base i).1 ≤ 18446744073709551615 := by unfold postQ; split <;> simp only <;> omega
        generalize postQ base i = pl at *
        obtain ⟨p, okp⟩ := pl
        simp only at hpl hpb
        clear hn1 hn2 hrg
        have HST := Lib.hid hst
        have HR0 := Lib.hid hR
        have HPL := Lib.hid hpl
        clear hst hR hpl
        go_wp2_with (fail)
        refine HST.out.mono ?_
        rintro e2 w2 ⟨rfl, ⟨A2, hM2, hsb2⟩, hF2⟩
        have hF02 := frm_pr HF01.out.drew hF2
        have ht2 := HT1.out.drew.pr hprl hgtw hF2
        have hf2 := HF1.out.drew.pr hprl hgfw hF2
        have hS2 := HSK.out w2 hF02
        have HM2 := Lib.hid hM2
        have HSB2 := Lib.hid hsb2
        have HF02 := Lib.hid hF02
        have HT2 := Lib.hid ht2
        have HF2 := Lib.hid hf2
        clear hM2 hsb2 hF02 ht2 hf2
        clear hF2 HT1 HF1 HF01 HR1 HST hb1 hgl1 hy0 hyl ks0 ks1 ks2 ks3 kd0 hgt1 hgf1 hS1
        refine hKK.out _ _ hS2 ?_
        clear hKK K
        try simp only [Act.put, List.setIfInBounds_toArray, List.set_cons_zero, List.set_cons_succ]
        refine wpAnyH_oneB (i := 10) rfl (by kernel_rfl) (fun K hKK => ?_)
        refine Eq.mpr (if_pos (by rfl)) ?_
        go_wp2_with (fail)
        refine (HPL.out w2 (by omega) (by omega) (by omega) (by omega)).mono ?_
        rintro e3 w3 ⟨rfl, rfl⟩
        refine hKK.out _ _ hS2 ?_
        clear hKK K
        try simp only [Act.put, List.setIfInBounds_toArray, List.set_cons_zero, List.set_cons_succ]
        refine wpAnyH_takeB (i := 11) (v := ?_) (d := some 25) rfl (by rfl) (by kernel_rfl) (fun _ _ _ h => h) (by rfl) hS2 (fun w hSw => ?_) ?_
        rotate_left
        · (try dsimp only at hSw); (try subst hSw); go_simp; first | done | (with_reducible rfl)
        simp only [Act.put, List.setIfInBounds_toArray, List.set_cons_zero, List.set_cons_succ]
        refine wpAnyH_takeB (i := 12) (v := ?_) (d := some 26) rfl (by rfl) (by kernel_rfl) (fun _ _ _ h => h) (by rfl) hS2 (fun w hSw => ?_) ?_
        rotate_left
        · (try dsimp only at hSw); (try subst hSw); go_simp; first | done | (with_reducible rfl)
        simp only [Act.put, List.setIfInBounds_toArray, List.set_cons_zero, List.set_cons_succ]
        obtain ⟨kd0, hsb, hT2, kpl⟩ := HDK.out w2 HF02.out
        have hen := qentry_any p okp count ps pd w2 (hsb.cell 0) (hsb.cell 2) kd0 hT2 hpb
        clear hsb hT2 kd0 kpl
        unfold FixR at hen
        have hR := HR0.out
        clear HR0
        refine wpAnyH_oneB (i := 13) rfl (by kernel_rfl) (fun K hKK => ?_)
        refine Eq.mpr (if_pos (by rfl)) ?_
        cases hq : entQ T count (p, okp) with
        | none =>
          rw [hq] at hen hR
          simp only at hen hR
          clear hq
          have HEN := Lib.hid hen
          have HR := Lib.hid hR
          clear hen hR
          go_wp2_with (fail)
          refine HEN.out.mono ?_
          rintro e3 w3 ⟨rfl, hF3⟩
          unfold PQ
          go_wp2
          refine ⟨rfl, ?_⟩
          rw [HR.out]
          exact ⟨26, by decide, rfl, frm_prn HF02.out hF3⟩
        | some f =>
          obtain ⟨f1, f2⟩ := f
          rw [hq] at hen hR
          simp only [fld, str] at hen hR
          clear hq
          have HEN := Lib.hid hen
          have HRK := Lib.hid hR
          clear hen hR
          go_wp2_with (fail)
          refine HEN.out.mono ?_
          rintro e3 w3 ⟨rfl, hF3⟩
          have hF03 := frm_prn HF02.out hF3
          have hS3 := HSK.out w3 hF03
          refine hKK.out _ _ hS3 ?_
          clear hKK K
          try simp only [Act.put, List.setIfInBounds_toArray, List.set_cons_zero, List.set_cons_succ]
          refine wpAnyH_takeB (i := 14) (v := .string ⟨f1.toArray⟩) (d := some 28) rfl (by rfl) (by kernel_rfl) (fun _ _ _ h => h) (by rfl) hS3 (fun w hSw => run_fieldq rfl rfl) ?_
          simp only [Act.put, List.setIfInBounds_toArray, List.set_cons_zero, List.set_cons_succ]
          refine wpAnyH_takeB (i := 15) (v := ?_) (d := some 29) rfl (by rfl) (by kernel_rfl) (fun _ _ _ h => h) (by rfl) hS3 (fun w hSw => ?_) ?_
          rotate_left
          · (try dsimp only at hSw); (try subst hSw); go_simp; first | done | (with_reducible rfl)
          simp only [Act.put, List.setIfInBounds_toArray, List.set_cons_zero, List.set_cons_succ]
          have hg3 := HF2.out.fresh hF3
          have hgl3 := hg3.lt
          have hc0 := hg3.cell 0
          simp only [List.getElem?_toArray, List.getElem?_cons_zero] at hc0
          have hz0 := hg3.frozen 0
          have hg4 := hg3.set_ 0 (.string ⟨f1.toArray⟩)
          simp only [List.setIfInBounds_toArray, List.set_cons_zero] at hg4
          have f4 : Frm (fun k => k = gf) w3 (w3.setCell ⟨gf, 0, none⟩ (.string ⟨f1.toArray⟩)) := (Frm.refl (fun k => k = gf) w3).setCell (p := ⟨gf, 0, none⟩) rfl _
          have hF04 := hF03.trans (f4.mono (fun q h => .inr (by subst h; exact hgfw)))
          have hS4 := HSK.out _ hF04
          have HG4 := Lib.hid hg4
          have HT4 := Lib.hid ((HT2.out.fresh hF3).keep f4 (fun e => hgtf e))
          have HM4 := Lib.hid ((HM2.out.fresh hF3).keep f4 (fun e => by omega) (blk_ne HSB2.out.1 hgl hgfw))
          have HF04 := Lib.hid hF04
          have HSB4 := HSB2
          clear hg3 hg4 f4 HT2 HF2 HM2 HF02 hF3 HSB2 hF03 hF04
          refine wpAnyH_oneB (i := 16) rfl (by kernel_rfl) (fun K hK => ?_)
          refine Eq.mpr (if_pos (by rfl)) ?_
          go_simp
          refine hK.out _ _ (hS4) ?_
          clear hK K
          try simp only [Act.put, List.setIfInBounds_toArray, List.set_cons_zero, List.set_cons_succ]
          refine wpAnyH_done (by kernel_rfl) ?_ _
          go_upto_region 16 with (fail)
          generalize w3.setCell ⟨gf, 0, none⟩ (.string ⟨f1.toArray⟩) = w4 at *
          clear hc0 hz0 hgl3 hS4 hS3
          have hva := qvalue_any HM4.out
          have hvl := strD_range (r.drop k) 7 (by decide)
          rcases hsv : strD (r.drop k) 7 with ⟨v, k2, e2⟩
          rw [hsv] at hva hvl
          have hRk := HRK.out
          unfold litQ at hRk
          rw [hsv] at hRk
          simp only [str] at hva hvl hRk
          unfold ReadR at hva
          obtain ⟨hyp0, hypl⟩ := HM4.out.cell
          obtain ⟨kd0, hsb, hT4, kpl⟩ := HDK.out w4 HF04.out
          have ksl := hsb.lt
          have ks1 := hsb.cell 1
          simp only [List.getElem?_toArray, List.getElem?_cons_zero, List.getElem?_cons_succ] at ks1
          clear hsb hT4 HRK
          by_cases he2 : e2 = 0
          · subst he2
            simp only [if_true] at hva
            rw [if_neg (by simp)] at hRk
            have HVA := Lib.hid hva
            have HR := Lib.hid hRk
            clear hva hRk
            go_wp2_with (fail)
            refine HVA.out.mono ?_
            rintro e5 w5 ⟨rfl, ⟨A5, hM5, hsb5⟩, hF5⟩
            have hF05 := frm_pr HF04.out hF5
            have hg5 := HG4.out.pr hprl hgfw hF5
            have ht5 := HT4.out.pr hprl hgtw hF5
            have hgf5 := hg5.lt
            have hc0 := hg5.cell 0
            have hc1 := hg5.cell 1
            simp only [List.getElem?_toArray, List.getElem?_cons_zero, List.getElem?_cons_succ] at hc0 hc1
            have hz1 := hg5.frozen 1
            have hg6 := hg5.set_ 1 (.string ⟨v.toArray⟩)
            simp only [List.setIfInBounds_toArray, List.set_cons_zero, List.set_cons_succ] at hg6
            have f6 : Frm (fun k => k = gf) w5 (w5.setCell ⟨gf, 1, none⟩ (.string ⟨v.toArray⟩)) := (Frm.refl (fun k => k = gf) w5).setCell (p := ⟨gf, 1, none⟩) rfl _
            have ht6 := ht5.keep f6 (fun e => hgtf e)
            have HG6 := Lib.hid hg6
            have F6 := Lib.hid f6
            have HT6 := Lib.hid ht6
            have HM5 := Lib.hid hM5
            have HSB5 := Lib.hid hsb5
            have HF05 := Lib.hid hF05
            clear hg6 f6 ht6 hM5 hsb5 hF05
            clear hg5 ht5 hF5
            go_wp2_with (first
              | (refine wpList_load_agg aggf rfl rfl rfl HG6.out rfl ?_)
              | (refine wpList_store_agg rfl rfl rfl rfl HT6.out rfl (fld_one3 _ _) (by kernel_rfl) ?_; intro w7 ht7 f7 hz7))
            refine bodyPost_ret (results_agg aggf rfl rfl ht7 rfl) rfl ?_
            rw [HR.out]
            have hk : ∀ q, w.heap.size ≤ q → ¬ (pr = q) := fun q h e => by omega
            have hM7 := (HM5.out.keep F6.out (hk _ hgfw) (blk_ne (HSB5.out.1.trans HSB4.out.1) hgl hgfw)).keep f7 (hk _ hgtw) (blk_ne (HSB5.out.1.trans HSB4.out.1) hgl hgtw)
            have hs7 := HSB5.out.trans HSB4.out
            rw [List.drop_drop, Nat.sub_sub] at hM7
            rw [Nat.sub_sub] at hs7
            exact ⟨rfl, ⟨A5, hM7, hs7⟩, (HF05.out.trans (F6.out.mono (fun q h => .inr (by subst h; exact hgfw)))).trans (f7.mono (fun q h => .inr (by subst h; exact hgtw)))⟩
          · simp only [if_neg he2] at hva
            rw [if_pos he2] at hRk
            have HVA := Lib.hid hva
            have HR := Lib.hid hRk
            clear hva hRk
            go_wp2_with (fail)
            refine HVA.out.mono ?_
            rintro e5 w5 ⟨rfl, hF5⟩
            unfold PQ
            go_wp2
            refine ⟨rfl, ?_⟩
            rw [HR.out]
            exact ⟨_, fixE_ne e2, rfl, frm_pr HF04.out hF5⟩
      · simp only [if_neg he] at hst
        rw [if_pos he] at hR
        have HST := Lib.hid hst
        have HR := Lib.hid hR
        clear hst hR
        go_wp2_with (fail)
        refine HST.out.mono ?_
        rintro e2 w2 ⟨rfl, hF2⟩
        unfold PQ
        go_wp2
        refine ⟨rfl, ?_⟩
        rw [HR.out]
        exact ⟨_, fixE_ne e, rfl, frm_pr HF01.out.drew hF2⟩
end Go.Proofs.Ytdgggjeiflllhaa.M
namespace Go.Proofs.Ytdgggjeiflllhaa.M
open Go.ChangeShapes Go.WideShapes Go.ChangeAt Go.RowKit
theorem litQ_range {nm r : Bytes} {k n : Nat} {x : Fld} (h : litQ nm r k = some (x, n)) (h1 : 1 ≤ k) (h2 : k ≤ r.length) : 1 ≤ n ∧ n ≤ r.length := by
  unfold litQ at h
  have hrg := strD_range (r.drop k) 7 (by decide)
  rcases hs : strD (r.drop k) 7 with ⟨v, k2, e⟩
  rw [hs] at h hrg
  simp only at h hrg
  by_cases he : e = 0
  · subst he
    rw [if_neg (by simp)] at h
    cases h
    have := hrg rfl
    simp only [List.length_drop] at this
    omega
  · rw [if_pos he] at h
    cases h
theorem map_some_range {q : Option Fld} {k n : Nat} {x : Fld} (h : (q.map fun y => (y, k)) = some (x, n)) : n = k := by
  cases q with
  | none => cases h
  | some y => cases h; rfl
theorem mat_some_range {q : Option Fld} {k n : Nat} {r : Bytes} {x : Fld} (h : (match q with | none => none | some f => litQ f.1 r k) = some (x, n)) (h1 : 1 ≤ k) (h2 : k ≤ r.length) : 1 ≤ n ∧ n ≤ r.length := by
  cases q with
  | none => cases h
  | some y => exact litQ_range h h1 h2
theorem lineQ_range {T : Tb} {count base n : Nat} {r : Bytes} {x : Fld} (h : lineQ T count base r = some (x, n)) : 1 ≤ n ∧ n ≤ r.length := by
  have hx := rdp_range r 6 (by decide)
  have hy := rdp_range r 4 (by decide)
  have hz := rdp_range r 3 (by decide)
  have hs := strD_range r 3 (by decide)
  by_cases h1 : 192 ≤ (r.headD 0).toNat
  · rcases hq : rdp r 6 with ⟨i, k, e⟩
    rw [lineQ_a h1 hq] at h
    rw [hq] at hx
    by_cases he : e = 0
    · subst he
      rw [if_neg (by simp)] at h
      have := hx rfl
      have := map_some_range h
      simp only at *
      omega
    · rw [if_pos he] at h; cases h
  by_cases h2 : 128 ≤ (r.headD 0).toNat
  · rcases hq : rdp r 6 with ⟨i, k, e⟩
    rw [lineQ_b h1 h2 hq] at h
    rw [hq] at hx
    by_cases he : e = 0
    · subst he
      rw [if_neg (by simp)] at h
      have := hx rfl
      have := map_some_range h
      simp only at *
      omega
    · rw [if_pos he] at h; cases h
  by_cases h3 : 64 ≤ (r.headD 0).toNat
  · rcases hq : rdp r 4 with ⟨i, k, e⟩
    rw [hq] at hy
    by_cases h5 : (r.headD 0).toNat / 16 % 2 = 1
    · rw [lineQ_c h2 h3 h5 hq] at h
      by_cases he : e = 0
      · subst he
        rw [if_neg (by simp)] at h
        exact mat_some_range h (hy rfl).1 (hy rfl).2.1
      · rw [if_pos he] at h; cases h
    · rw [lineQ_d h2 h3 h5 hq] at h
      by_cases he : e = 0
      · subst he
        rw [if_neg (by simp)] at h
        exact mat_some_range h (hy rfl).1 (hy rfl).2.1
      · rw [if_pos he] at h; cases h
  by_cases h4 : 32 ≤ (r.headD 0).toNat
  · rcases hq : strD r 3 with ⟨s, k, e⟩
    rw [lineQ_e h3 h4 hq] at h
    rw [hq] at hs
    by_cases he : e = 0
    · subst he
      rw [if_neg (by simp)] at h
      exact litQ_range h (hs rfl).1 (hs rfl).2
    · rw [if_pos he] at h; cases h
  by_cases h6 : 16 ≤ (r.headD 0).toNat
  · rcases hq : rdp r 4 with ⟨i, k, e⟩
    rw [lineQ_f h4 h6 hq] at h
    rw [hq] at hy
    by_cases he : e = 0
    · subst he
      rw [if_neg (by simp)] at h
      have := hy rfl
      have := map_some_range h
      simp only at *
      omega
    · rw [if_pos he] at h; cases h
  · rcases hq : rdp r 3 with ⟨i, k, e⟩
    rw [lineQ_g h6 hq] at h
    rw [hq] at hz
    by_cases he : e = 0
    · subst he
      rw [if_neg (by simp)] at h
      exact mat_some_range h (hz rfl).1 (hz rfl).2.1
    · rw [if_pos he] at h; cases h
theorem linesQ_nil (T : Tb) (count base fu : Nat) (out : List Fld) : linesQ T count base fu out [] = some out := by cases fu <;> rfl
theorem linesQ_cons (T : Tb) (count base fu : Nat) (out : List Fld) {r : Bytes} (h : r ≠ []) : linesQ T count base (fu + 1) out r = match lineQ T count base r with
    | none => none
    | some (x, k) => if 64 < out.length + 1 then none else linesQ T count base fu (out ++ [x]) (r.drop k) := by
  cases r with
  | nil => exact absurd rfl h
  | cons c t => rfl
theorem App.freshx {M N : Nat → Prop} {w w' : World} {e size n c : Nat} {A : Option Addr} {xs : List Value} (h : App M w e size A n c xs) (f : Frm (fun j => N j ∨ New w j) w w') (hN : ∀ k, M k → ¬ N k) : App M w' e size A n c xs :=
  { h with
    rd := fun j u hu => by
      obtain ⟨g, off, rfl, hc⟩ := h.rd j u hu
      have hl := World.block_lt_of_cell? _ _ hc
      simp only at hl
      have hq : ¬ (N g ∨ New w g) := fun q => by
        rcases q with q | q
        · exact hN g (h.inM g rfl) q
        · unfold New at q; omega
      exact ⟨g, off, rfl, by rw [f.cell (p := ⟨g, off + j, none⟩) hq]; exact hc⟩
    own := fun hn => by
      obtain ⟨g, off, cur, a, b, d, m⟩ := h.own hn
      have hg : g < w.heap.size := (Array.getElem?_eq_some_iff.1 b).1
      have hq : ¬ (N g ∨ New w g) := fun q => by
        rcases q with q | q
        · exact hN g m q
        · unfold New at q; omega
      exact ⟨g, off, cur, a, by rw [f.block g hq]; exact b, d, m⟩ }
structure LInv (w : World) (pr bl : Nat) (r : Bytes) (A : Option Addr) (c : Nat) (out : List Fld) (Al : Option Addr) (cl : Nat) (wx : World) : Prop where
  rdr : RdAt wx pr r A c
  lst : Blk wx bl 30 #[.slice Al out.length cl]
  app : App (New w) wx 71 2 Al out.length cl (fvs out)
  frm : Frm (fun j => j = pr ∨ j = bl ∨ New w j) w wx
  far : ∀ k, M.blk A = some k → k < w.heap.size ∧ k ≠ bl ∧ k ≠ pr
  nl : out = [] → Al = none
def LinesR (w : World) (pr bl : Nat) (o : Option (List Fld)) (e : Ending) (w' : World) : Prop :=
  Frm (fun j => j = pr ∨ j = bl ∨ New w j) w w' ∧
  match o with
  | some l => e = .returned (.tuple #[]) ∧ ∃ Al cl, Blk w' bl 30 #[.slice Al l.length cl] ∧ App (New w) w' 71 2 Al l.length cl (fvs l) ∧ (l = [] → Al = none)
  | none => ∃ x, x ≠ 0 ∧ e = PQ x
set_option maxRecDepth 100000 in
set_option maxHeartbeats 4000000 in
theorem qlines_any {S : Nat → Prop} {g count base : Nat} {T : Tb} {pr c0 bs bl : Nat} {r0 : Bytes} {A0 : Option Addr} (ps pd : Nat) (w : World) (hbs : w.cell? ⟨bs, 0, none⟩ = some (.pointer (some ⟨ps, 0, none⟩))) (hbl : Blk w bl 30 #[.slice none 0 0])
    (hs : Blk w ps 131 #[.pointer (some ⟨pd, 0, none⟩), .pointer (some ⟨pr, 0, none⟩), .int .u64 (count : Int), .int .u64 (base : Int)]) (hd0 : w.cell? ⟨pd, 0, none⟩ = some (.pointer (some ⟨g, 0, none⟩)))
    (hT : TabS S w g T) (hr : RdAt w pr r0 A0 c0) (hrS : ¬ S pr) (hlS : ¬ S bl) (hpr : pr ≠ pd) (hps : pr ≠ ps) (hprl : pr ≠ bl) (hpsl : ps ≠ bl) (hpdl : pd ≠ bl) (hbsl : bs ≠ bl) (hbsr : bs ≠ pr) (hA : ∀ k, M.blk A0 = some k → k < w.heap.size ∧ k ≠ bl) (hbase : base ≤ 4611686018427387903) :
    Calls Try.prog 65 #[.pointer (some ⟨bs, 0, none⟩), .pointer (some ⟨bl, 0, none⟩)] w (LinesR w pr bl (linesQ T count base r0.length [] r0)) := by
  obtain ⟨o, ho⟩ : ∃ o, o = linesQ T count base r0.length [] r0 := ⟨_, rfl⟩
  rw [← ho]
  have hpl := World.block_lt_of_cell? _ _ hd0
  have hbsL := World.block_lt_of_cell? _ _ hbs
  simp only at hpl hbsL
  have hprL := hr.blk.lt
  have hblL := hbl.lt
  have hdk : ∀ w', Frm (fun j => j = pr ∨ j = bl ∨ New w j) w w' → w'.cell? ⟨pd, 0, none⟩ = some (.pointer (some ⟨g, 0, none⟩)) ∧ Blk w' ps 131 #[.pointer (some ⟨pd, 0, none⟩), .pointer (some ⟨pr, 0, none⟩), .int .u64 (count : Int), .int .u64 (base : Int)] ∧ TabS S w' g T ∧ w'.cell? ⟨bs, 0, none⟩ = some (.pointer (some ⟨ps, 0, none⟩)) ∧ bs < w'.heap.size := fun w' f => by
    refine ⟨by rw [f.cell (p := ⟨pd, 0, none⟩) (fun e => by rcases e with e | e | e; exact hpr e.symm; exact hpdl e; unfold New at e; simp only at e; omega)]; exact hd0, hs.keep f (fun e => by rcases e with e | e | e; exact hps e.symm; exact hpsl e; have := hs.lt; unfold New at e; omega), hT.keep f (fun k hk e => by rcases e with e | e | e; exact hrS (e ▸ hk); exact hlS (e ▸ hk); have := hT.low k hk; unfold New at e; omega), by rw [f.cell (p := ⟨bs, 0, none⟩) (fun e => by rcases e with e | e | e; exact hbsr e; exact hbsl e; unfold New at e; simp only at e; omega)]; exact hbs, Nat.lt_of_lt_of_le hbsL f.size⟩
  have hI0 : LInv w pr bl r0 A0 c0 [] none 0 w := ⟨hr, hbl, App.none_, Frm.refl _ _, fun k hk => ⟨(hA k hk).1, (hA k hk).2, hr.far k hk⟩, fun _ => rfl⟩
  have HDK := Lib.hid hdk
  have HI0 := Lib.hid hI0
  have HO := Lib.hid ho
  clear hdk hI0 ho
  clear hbs hbl hs hd0 hT hr hA
  go_enter Try.func65, Try.ntmps65
  go_wp2_with (fail)
  go_loopg [] r0.length (fun kk wx => ∃ (fu : Nat) (r : Bytes) (A : Option Addr) (c : Nat) (out : List Fld) (Al : Option Addr) (cl : Nat), r.length ≤ kk ∧ r.length ≤ fu ∧ out.length ≤ 64 ∧ Hid (o = linesQ T count base fu out r) ∧ Hid (LInv w pr bl r A c out Al cl wx))
  case atStart => exact ⟨r0.length, r0, A0, c0, [], none, 0, Nat.le_refl _, Nat.le_refl _, by simp, HO, HI0⟩
  case round =>
    clear HO HI0
    obtain ⟨fu, r, A, c, out, Al, cl, hkk, hfu, hout, hE, hI⟩ := hrel
    rename World => wx
    obtain ⟨hd0, hsb, hT, hx0, hxl⟩ := HDK.out wx hI.out.frm
    have hslt := hsb.lt
    have hsb' := hsb
    have hs1 := hsb'.cell 1
    simp only [List.getElem?_toArray, List.getElem?_cons_zero, List.getElem?_cons_succ] at hs1
    obtain ⟨hy0, hyl⟩ := hI.out.rdr.cell
    clear hsb'
    cases r with
    | nil =>
      rw [linesQ_nil] at hE
      rw [show ([] : Bytes).length = 0 from rfl] at hy0
      clear hd0 hT
      have HSB := Lib.hid hsb
      clear hsb
      go_wp2
      go_end0
      rw [hE.out]
      exact ⟨hI.out.frm, rfl, Al, cl, hI.out.lst, hI.out.app, hI.out.nl⟩
    | cons q0 qt =>
      have hne : q0 :: qt ≠ [] := by simp
      have hlr : 0 < (q0 :: qt).length := by simp
      generalize q0 :: qt = r at *
      have hlri : (0 : Int) < (r.length : Int) := by omega
      obtain ⟨fu, rfl⟩ : ∃ f, fu = f + 1 := ⟨fu - 1, by omega⟩
      have hE2 := hE.out
      rw [linesQ_cons _ _ _ _ _ hne] at hE2
      have hln := fun w' (f : Frm (New wx) wx w') => qline_any ps pd w' (hsb.fresh f) (by rw [f.cell (p := ⟨pd, 0, none⟩) (by have := World.block_lt_of_cell? _ _ hd0; unfold New; simp only at *; omega)]; exact hd0) (hT.fresh f) (hI.out.rdr.fresh f) hne hrS hpr hps hbase
      have hrg := fun x n (h : lineQ T count base r = some (x, n)) => lineQ_range h
      generalize lineQ T count base r = q at *
      have hL := hI.out.lst
      have hl0 := hL.cell 0
      simp only [List.getElem?_toArray, List.getElem?_cons_zero] at hl0
      have hll := hL.lt
      have hS0 : wx.drew.cell? ⟨bl, 0, none⟩ = some (.slice Al out.length cl) ∧ wx.drew.cell? ⟨bs, 0, none⟩ = some (.pointer (some ⟨ps, 0, none⟩)) := ⟨hl0, hx0⟩
      have hbk : ∀ w', Frm (fun j => j = pr ∨ New wx j) wx w' → Blk w' bl 30 #[.slice Al out.length cl] ∧ w'.cell? ⟨bs, 0, none⟩ = some (.pointer (some ⟨ps, 0, none⟩)) := fun w' f => ⟨hL.keep f (fun e => by rcases e with e | e; exact hprl e.symm; unfold New at e; omega), by rw [f.cell (p := ⟨bs, 0, none⟩) (fun e => by rcases e with e | e; exact hbsr e; unfold New at e; simp only at e; omega)]; exact hx0⟩
      have hln0 := hln wx.drew ((Frm.refl _ wx).drew)
      have HE2 := Lib.hid hE2
      have HLN0 := Lib.hid hln0
      have HRG := Lib.hid hrg
      have HL := Lib.hid hL
      have HBK := Lib.hid hbk
      clear hE2 hln0 hrg hL hbk
      clear hln hE hsb hT hd0
      go_upto_region 1 with (fail)
      refine wp_region_til (by kernel_rfl) (fun w' => w'.cell? ⟨bl, 0, none⟩ = some (.slice Al out.length cl) ∧ w'.cell? ⟨bs, 0, none⟩ = some (.pointer (some ⟨ps, 0, none⟩))) 5 ?_
      change wpAnyT _ _ _ _ _ _ _ _ _ wx.drew
      refine wpAnyT_take (i := 0) (v := ?_) (d := some 11) rfl (by rfl) (by kernel_rfl) (fun _ _ _ h => h) (by rfl) hS0 (fun w hSw => ?_) ?_
      rotate_left
      · (try dsimp only at hSw); go_simp; first | done | (with_reducible rfl)
      simp only [Act.put, List.setIfInBounds_toArray, List.set_cons_zero, List.set_cons_succ]
      refine wpAnyT_take (i := 1) (v := ?_) (d := some 12) rfl (by rfl) (by kernel_rfl) (fun _ _ _ h => h) (by rfl) hS0 (fun w hSw => ?_) ?_
      rotate_left
      · (try dsimp only at hSw); go_simp; first | done | (with_reducible rfl)
      simp only [Act.put, List.setIfInBounds_toArray, List.set_cons_zero, List.set_cons_succ]
      refine wpAnyT_one (i := 2) rfl (by kernel_rfl) (fun K hKK => ?_)
      refine Eq.mpr (if_pos (by rfl)) ?_
      cases q with
      | none =>
        have hn := HLN0.out
        unfold LineR at hn
        simp only at hn
        have hE3 := HE2.out
        simp only at hE3
        have HN := Lib.hid hn
        have HE3 := Lib.hid hE3
        clear hn hE3
        clear HLN0 HE2
        go_wp2_with (fail)
        refine HN.out.mono ?_
        rintro e2 w2 ⟨x, hx, rfl, hF2⟩
        unfold PQ
        go_wp2
        refine ⟨rfl, ?_⟩
        rw [HE3.out]
        refine ⟨hI.out.frm.trans (Frm.trans ((Frm.refl _ wx).drew) (hF2.mono (fun k hk => ?_))), x, hx, rfl⟩
        rcases hk with hk | hk
        · exact .inl hk
        · exact .inr (.inr (Nat.le_trans hI.out.frm.size hk))
      | some y =>
        obtain ⟨⟨f1, f2⟩, k⟩ := y
        obtain ⟨hk1, hk2⟩ := HRG.out _ _ rfl
        have hn := HLN0.out
        unfold LineR at hn
        simp only [fld, str] at hn
        have hE3 := HE2.out
        simp only at hE3
        have HN := Lib.hid hn
        have HE3 := Lib.hid hE3
        clear hn hE3
        clear HLN0 HE2 HRG
        go_wp2_with (fail)
        refine HN.out.mono ?_
        rintro e2 w2 ⟨rfl, ⟨A2, hM2, hsb2⟩, hF2⟩
        replace hF2 : Frm (fun j => j = pr ∨ New wx j) wx w2 := Frm.trans ((Frm.refl _ wx).drew) hF2
        obtain ⟨hL2, hx2⟩ := HBK.out w2 hF2
        have hA2 := (hI.out.app.freshx (N := fun j => j = pr) hF2 (fun k hk e => by subst e; unfold New at hk; omega))
        have hz := hI.out.frm.size
        have hF02 : Frm (fun j => j = pr ∨ j = bl ∨ New w j) w w2 := hI.out.frm.trans (hF2.mono (fun k hk => by
          rcases hk with hk | hk
          · exact .inl hk
          · exact .inr (.inr (Nat.le_trans hz hk))))
        have hS2 : w2.cell? ⟨bl, 0, none⟩ = some (.slice Al out.length cl) ∧ w2.cell? ⟨bs, 0, none⟩ = some (.pointer (some ⟨ps, 0, none⟩)) := ⟨hL2.cell 0, hx2⟩
        have h02 := hF02.size
        have hlL2 := hL2.lt
        have HM2 := Lib.hid hM2
        have HSB2 := Lib.hid hsb2
        have HL2 := Lib.hid hL2
        have HA2 := Lib.hid hA2
        have HF02 := Lib.hid hF02
        clear hM2 hsb2 hL2 hA2 hF02
        clear hF2 HN
        refine hKK.out _ _ (.inr hS2) ?_
        clear hKK K
        have hn0 := World.new_ne w2 _ hS2.1
        have hn1 := World.new_ne w2 _ hS2.2
        have hl2 := hS2.1
        have hx2' := hS2.2
        refine wpAnyT_one (i := 3) rfl (by kernel_rfl) (fun K hK => ?_)
        go_simp
        refine hK.out _ _ (.inr ((by go_keep))) ?_
        clear hK K
        refine wpAnyT_one (i := 4) rfl (by kernel_rfl) (fun K hKK => ?_)
        refine step_append2 (M := New w) (A := Al) (n := out.length) (c := cl) (xs := fvs out) (news := [.string ⟨f1.toArray⟩, .string ⟨f2.toArray⟩]) flds rfl rfl rfl (HA2.out.alloc _) (fun k hk => Nat.le_trans h02 (by simp at hk; omega)) rfl (Rd.new _ #[.string ⟨f1.toArray⟩, .string ⟨f2.toArray⟩] _) rfl (fun u hu => by simp at hu; rcases hu with rfl | rfl <;> rfl) (by omega) ?_
        intro A4 c4 w6 hA4 hF4 hblk4 _
        have hF6 := ((Frm.refl (New w) w2).alloc (fun k hk => Nat.le_trans h02 hk) (Obj.cells #[.string ⟨f1.toArray⟩, .string ⟨f2.toArray⟩] 71)).trans hF4
        have hold : ∀ k, k < w.heap.size → ¬ New w k := fun k h e => by unfold New at e; omega
        have hL6 := HL2.out.keep hF6 (hold _ hblL)
        have hx6 : w6.cell? ⟨bs, 0, none⟩ = some (.pointer (some ⟨ps, 0, none⟩)) := by rw [hF6.cell (p := ⟨bs, 0, none⟩) (hold _ hbsL)]; exact hS2.2
        have hM6 := HM2.out.keep hF6 (hold _ hprL) (fun k hk => hold _ (hI.out.far k (by rw [← HSB2.out.1]; exact hk)).1)
        have hF06 := HF02.out.trans (hF6.mono (fun k hk => .inr (.inr hk)))
        have hS6 : w6.cell? ⟨bl, 0, none⟩ = some (.slice Al out.length cl) ∧ w6.cell? ⟨bs, 0, none⟩ = some (.pointer (some ⟨ps, 0, none⟩)) := ⟨hL6.cell 0, hx6⟩
        have hz6 := hL6.frozen 0
        have hl6 := hL6.lt
        have hc6 := hS6.1
        have hL7 := hL6.set_ 0 (.slice A4 (out.length + 1) c4)
        simp only [List.setIfInBounds_toArray, List.set_cons_zero] at hL7
        have f7 : Frm (fun k => k = bl) w6 (w6.setCell ⟨bl, 0, none⟩ (.slice A4 (out.length + 1) c4)) := (Frm.refl (fun k => k = bl) w6).setCell (p := ⟨bl, 0, none⟩) rfl _
        have hol : (out ++ [(f1, f2)]).length = out.length + 1 := by simp
        have hA7 : App (New w) (w6.setCell ⟨bl, 0, none⟩ (.slice A4 (out.length + 1) c4)) 71 2 A4 (out.length + 1) c4 (fvs (out ++ [(f1, f2)])) := by
          have h1 := hA4.keep f7 (fun k hk (e : k = bl) => by have := hA4.inM k hk; unfold New at this; omega)
          rw [fvs_append3]
          simpa [fvs, str] using h1
        have hI7 : LInv w pr bl (r.drop k) A2 (c - k) (out ++ [(f1, f2)]) A4 c4 (w6.setCell ⟨bl, 0, none⟩ (.slice A4 (out.length + 1) c4)) :=
          ⟨hM6.keep f7 hprl (fun q hq (e : q = bl) => (hI.out.far q (by rw [← HSB2.out.1]; exact hq)).2.1 e), by rw [hol]; exact hL7, by rw [hol]; exact hA7, hF06.trans (f7.mono (fun k hk => .inr (.inl hk))), fun q hq => hI.out.far q (by rw [← HSB2.out.1]; exact hq), fun e => by simp at e⟩
        have hrl1 : (r.drop k).length = r.length - k := List.length_drop
        generalize r.drop k = r2 at *
        have HI7 := Lib.hid hI7
        have HRL1 := Lib.hid hrl1
        have HOL := Lib.hid hol
        clear hI7 hrl1 hol
        clear hA4 hF4 hblk4 hF6 hL6 hx6 hM6 hF06 hL7 f7 hA7 HM2 HSB2 HL2 HA2 HF02 hold
        refine hKK.out _ _ (.inr hS6) ?_
        clear hKK K hn0 hn1
        refine wpAnyT_one (i := 5) rfl (by kernel_rfl) (fun K hK => ?_)
        go_simp
        refine hK.out _ _ (.inl (by kernel_rfl)) ?_
        clear hK K
        refine wpAnyT_done (by kernel_rfl) ?_ _
        have hJ := HI7.out.lst
        rw [HOL.out] at hJ
        generalize w6.setCell ⟨bl, 0, none⟩ (.slice A4 (out.length + 1) c4) = w7 at *
        clear hS6 hz6 hl6 hc6 hl0 hll hx0 hxl hS0 hS2 hl2 hx2'
        have hl0 := hJ.cell 0
        simp only [List.getElem?_toArray, List.getElem?_cons_zero] at hl0
        have hll := hJ.lt
        have HJ := Lib.hid hJ
        clear hJ
        by_cases hlt : out.length < 64
        · have hq : decide ((out.length : Int) + 1 ≤ 64) = true := decide_eq_true (by omega)
          have hE4 : Hid (o = linesQ T count base fu (out ++ [(f1, f2)]) r2) := by show _ = _; rw [HE3.out, if_neg (by omega)]
          have HLT := Lib.hid hlt
          clear hlt
          go_wp2_with (fail)
          refine (qask_true _).mono ?_
          rintro e8 w8 ⟨rfl, hw8⟩
          rw [hw8]
          clear hw8 w8
          go_wp2
          go_roundg (gk - 1)
          case measure => have := HRL1.out; omega
          case rel => exact ⟨fu, r2, A2, c - k, out ++ [(f1, f2)], A4, c4, by have := HRL1.out; omega, by have := HRL1.out; omega, by have := HLT.out; rw [HOL.out]; omega, hE4, HI7⟩
        · have hq : decide ((out.length : Int) + 1 ≤ 64) = false := decide_eq_false (by omega)
          have hE4 : Hid (o = none) := by show _ = _; rw [HE3.out, if_pos (by omega)]
          clear hlt
          go_wp2_with (fail)
          refine (qask_false _).mono ?_
          rintro e8 w8 ⟨rfl, hw8⟩
          rw [hw8]
          clear hw8 w8
          unfold PQ
          go_wp2
          refine ⟨rfl, ?_⟩
          rw [hE4.out]
          exact ⟨HI7.out.frm, 26, by decide, rfl⟩
end Go.Proofs.Ytdgggjeiflllhaa.M

