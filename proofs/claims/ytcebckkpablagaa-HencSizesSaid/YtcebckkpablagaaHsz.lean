/- bifoldlaw7.HencSizes: for every input it tells true. -/
import Derived.Deep.CutBlock
import Derived.Test.YtcebckkpablagaaFeq
import Derived.Test.YtcebckkpablagaaKnow
import Derived.Test.YtcebckkpablagaaEres
import Derived.Test.YtcebckkpablagaaRdec
import Derived.Test.YtcebckkpablagaaBack
namespace Go.Proofs.Ytcebckkpablagaa.M
open Go.ChangeShapes Go.WideShapes Go.ChangeAt Go.RowKit

theorem lim_nat (v : Nat) (h : v ≤ 4096) : lim (v : Int) = v := by unfold lim; omega
/-- an encoder behind resizes -/
def rsz (E : En) (us : List Nat) : En := us.foldl (fun E v => E.resize ((v % 4097 : Nat) : Int)) E
theorem rsz_snoc (E : En) (us : List Nat) (v : Nat) : rsz E (us ++ [v]) = (rsz E us).resize ((v % 4097 : Nat) : Int) := by simp [rsz]
def mins (us : List Nat) : Nat := us.foldl (fun a v => min a (v % 4097)) 4097
theorem mins_snoc (us : List Nat) (v : Nat) : mins (us ++ [v]) = min (mins us) (v % 4097) := by simp [mins]
theorem mins_le (us : List Nat) : mins us ≤ 4097 := by
  have : ∀ (us : List Nat) (a : Nat), a ≤ 4097 → us.foldl (fun a v => min a (v % 4097)) a ≤ 4097 := by
    intro us
    induction us with
    | nil => intro a h; exact h
    | cons x r ih => intro a h; exact ih _ (Nat.le_trans (Nat.min_le_left _ _) h)
  exact this us 4097 (Nat.le_refl _)
def E0 : En := En.new 4096
def D0 : De := ⟨⟨[], 0, 4096⟩, 4096, false, false⟩
structure RszOk (us : List Nat) (E : En) : Prop where
  sync : Sync D0 E
  n : E.t.n = 0
  nil_ : us = [] → E.least = none
  some_ : ∀ v, us.getLast? = some v → E.least = some (mins us) ∧ E.t.cap = v % 4097
theorem rsz_ok_zero : RszOk [] (rsz E0 []) := ⟨Sync.new 4096, rfl, fun _ => rfl, fun v h => by cases h⟩
theorem rsz_ok_snoc {us : List Nat} (v : Nat) (h : RszOk us (rsz E0 us)) : RszOk (us ++ [v]) (rsz E0 (us ++ [v])) := by
  rw [rsz_snoc]
  have hl := lim_nat (v % 4097) (by omega)
  refine ⟨h.sync.resize _, h.n, fun e => by simp at e, fun u hu => ?_⟩
  simp at hu
  subst hu
  constructor
  · show some (match (rsz E0 us).least with | none => lim ((v % 4097 : Nat) : Int) | some m => min m (lim ((v % 4097 : Nat) : Int))) = _
    rw [hl, mins_snoc]
    cases hls : us.getLast? with
    | none =>
      have he : us = [] := by simpa using hls
      rw [h.nil_ he, he]
      simp only [mins, List.foldl_nil]
      congr 1
      omega
    | some u =>
      rw [(h.some_ u hls).1]
  · show lim ((v % 4097 : Nat) : Int) = _
    exact hl
theorem rsz_ok : ∀ (k : Nat) (us : List Nat), k ≤ us.length → RszOk (us.take k) (rsz E0 (us.take k))
  | 0, us, _ => by rw [List.take_zero]; exact rsz_ok_zero
  | k + 1, us, h => by
    rw [List.take_succ_eq_append_getElem (by omega)]
    exact rsz_ok_snoc _ (rsz_ok k us (by omega))
/-- the sizes that are told -/
def szs (E : En) : List Nat := match E.least with
  | none => []
  | some m => if m < E.t.cap then [m, E.t.cap] else [E.t.cap]
theorem szs_bytes (E : En) : E.sizeB = (szs E).flatMap (pfx 32 5) := by
  unfold En.sizeB szs
  cases E.least with
  | none => rfl
  | some m =>
    simp only
    split <;> simp
/-- how the law counts -/
def cnt2 (us : List Nat) : Nat := match us.getLast? with
  | none => 0
  | some v => if mins us < v % 4097 then 2 else 1
theorem cnt2_cases (us : List Nat) : (us = [] ∧ cnt2 us = 0) ∨ (us.length ≠ 0 ∧ ∃ v, us.getLast? = some v ∧ us[us.length - 1]? = some v ∧ ((mins us < v % 4097 ∧ cnt2 us = 2) ∨ (¬ mins us < v % 4097 ∧ cnt2 us = 1))) := by
  unfold cnt2
  cases hl : us.getLast? with
  | none => exact .inl ⟨by simpa using hl, rfl⟩
  | some v =>
    refine .inr ⟨fun e => ?_, v, rfl, by rw [← hl, List.getLast?_eq_getElem?], ?_⟩
    · have : us = [] := List.eq_nil_of_length_eq_zero e
      rw [this] at hl; cases hl
    · by_cases h : mins us < v % 4097
      · exact .inl ⟨h, by simp [h]⟩
      · exact .inr ⟨h, by simp [h]⟩
theorem szs_len {us : List Nat} {E : En} (h : RszOk us E) : (szs E).length = cnt2 us ∧ ∀ m ∈ szs E, m ≤ 4096 := by
  unfold szs cnt2
  cases hl : us.getLast? with
  | none =>
    have he : us = [] := by simpa using hl
    rw [h.nil_ he]
    simp
  | some v =>
    obtain ⟨h1, h2⟩ := h.some_ v hl
    rw [h1, h2]
    simp only
    split
    · exact ⟨rfl, fun m hm => by simp at hm; omega⟩
    · exact ⟨rfl, fun m hm => by simp at hm; omega⟩
/-- the forms of a size update -/
theorem pfx_form (m : Nat) (h : m ≤ 4096) : (∃ a : Nat, 32 ≤ a ∧ a < 63 ∧ pfx 32 5 m = [UInt8.ofNat a]) ∨ (∃ v : Nat, v < 128 ∧ pfx 32 5 m = [63, UInt8.ofNat v]) ∨ (∃ u v : Nat, 128 ≤ u ∧ u < 256 ∧ v < 128 ∧ pfx 32 5 m = [63, UInt8.ofNat u, UInt8.ofNat v]) := by
  unfold pfx
  by_cases h1 : m < 2 ^ 5 - 1
  · rw [if_pos h1]
    exact .inl ⟨32 / 2 ^ 5 * 2 ^ 5 + m, by omega, by omega, rfl⟩
  · rw [if_neg h1]
    by_cases h2 : m - (2 ^ 5 - 1) < 128
    · refine .inr (.inl ⟨m - (2 ^ 5 - 1), h2, ?_⟩)
      rw [more, if_pos h2]
      rfl
    · refine .inr (.inr ⟨(m - (2 ^ 5 - 1)) % 128 + 128, (m - (2 ^ 5 - 1)) / 128, by omega, by omega, by omega, ?_⟩)
      rw [more, if_neg h2, more, if_pos (by omega)]
      rfl
/-- where the law's count stands -/
def upTo (ms : List Nat) (j : Nat) : Nat := ((ms.take j).flatMap (pfx 32 5)).length
theorem upTo_succ (ms : List Nat) (j : Nat) (h : j < ms.length) : upTo ms (j + 1) = upTo ms j + (pfx 32 5 ms[j]).length := by
  unfold upTo
  rw [List.take_succ_eq_append_getElem h, List.flatMap_append, List.length_append, List.flatMap_cons, List.flatMap_nil, List.append_nil]
theorem upTo_split (ms : List Nat) (L : Bytes) (j : Nat) (h : j < ms.length) : ∃ pre suf, ms.flatMap (pfx 32 5) ++ L = pre ++ (pfx 32 5 ms[j] ++ suf) ∧ pre.length = upTo ms j := by
  refine ⟨(ms.take j).flatMap (pfx 32 5), (ms.drop (j + 1)).flatMap (pfx 32 5) ++ L, ?_, rfl⟩
  have e : ms.flatMap (pfx 32 5) = (ms.take j).flatMap (pfx 32 5) ++ (pfx 32 5 ms[j] ++ (ms.drop (j + 1)).flatMap (pfx 32 5)) := by
    rw [← List.flatMap_cons, ← List.flatMap_append, ← List.drop_eq_getElem_cons h, List.take_append_drop]
  rw [e]
  simp only [List.append_assoc]
theorem upTo_all (ms : List Nat) : upTo ms ms.length = (ms.flatMap (pfx 32 5)).length := by unfold upTo; rw [List.take_length]
/-- what HencSizes looks at -/
theorem sizes_all {us : List Nat} {E : En} (h : RszOk us E) (f : Fld) (hf : f.1.length + f.2.length ≤ 100) : ∃ x t, E.encB [f] = (szs E).flatMap (pfx 32 5) ++ x :: t ∧ x.toNat / 32 ≠ 1 ∧ D0.run (E.encB [f]) = some ([f], (E.enc [f]).t) ∧
    ∃ y s, (E.enc [f]).encB [f] = y :: s ∧ y.toNat / 32 ≠ 1 := by
  have hn := h.n
  obtain ⟨h1, h2⟩ := h.sync.back [f] (by simp) (by rw [hn]; simp) (fun g hg => by simp at hg; subst hg; omega)
  have hle : E.t.l.length ≤ E.t.n := by
    have h3 := h.sync.tab
    cases hl : E.least with
    | none => rw [hl] at h3; simp only at h3; rw [← h3]; exact h.sync.le
    | some m =>
      rw [hl] at h3
      simp only at h3
      have := evict_length 0 m D0.t.l
      rw [h3.2] at this
      have h4 : D0.t.l = [] := rfl
      rw [h4] at this
      simp at this
      rw [this]; exact Nat.zero_le _
  obtain ⟨add, _, _, x, t, h5, h6⟩ := line_back hle (by omega) f [] (by omega) (by omega)
  have hle2 := oneT_le hle f
  obtain ⟨add2, _, _, y, s, h7, h8⟩ := line_back hle2.1 (by omega) f [] (by omega) (by omega)
  refine ⟨x, t, ?_, h6, h1, y, s, ?_, h8⟩
  · show E.sizeB ++ (oneB E.t f ++ []) = _
    rw [szs_bytes, h5]
  · exact h7

/-- an encoder, the document's decoder, a field's own variable -/
structure HSt (W : World) (bx : Nat) (f : Fld) (S : Nat → Prop) (p g : Nat) (E : En) (ch : Bool) (ls : Nat) (S2 : Nat → Prop) (p2 g2 : Nat) (D : De) (w : World) : Prop where
  box : Blk w bx 30 #[.string ⟨f.1.toArray⟩, .string ⟨f.2.toArray⟩]
  en : EnAt S w p g E ch ls
  de : RDeAt S2 w p2 g2 D
  dS : ∀ k, S2 k → ¬ S k ∧ k ≠ p
  dp : ¬ S p2 ∧ p2 ≠ p
  bS : ¬ S bx ∧ ¬ S2 bx ∧ bx ≠ p ∧ bx ≠ p2
  lS : ∀ k, S k → W.heap.size ≤ k
  lS2 : ∀ k, S2 k → W.heap.size ≤ k
  lp : W.heap.size ≤ p ∧ W.heap.size ≤ p2
  frm : Frm (New W) W w
section
variable {W w w' : World} {bx p g ls p2 g2 : Nat} {f : Fld} {S S2 S' : Nat → Prop} {E E' : En} {ch ch' : Bool} {D D' : De}
theorem HSt.fresh (h : HSt W bx f S p g E ch ls S2 p2 g2 D w) (F : Frm (New w) w w') : HSt W bx f S p g E ch ls S2 p2 g2 D w' :=
  { h with
    box := h.box.fresh F
    en := h.en.fresh F
    de := h.de.fresh F
    frm := h.frm.then_new Up.new F }
theorem HSt.enc {ls' : Nat} (h : HSt W bx f S p g E ch ls S2 p2 g2 D w) (he : EnAt S' w' p g E' ch' ls') (F : Frm (fun k => k = p ∨ Own S w k) w w') (hS : ∀ k, S' k → Own S w k) : HSt W bx f S' p g E' ch' ls' S2 p2 g2 D w' := by
  have hb := h.box.lt
  have hl := h.de.tab.low
  have hp2 := h.de.blk.lt
  have hs := h.frm.size
  have hown : ∀ k, k < w.heap.size → ¬ S k → ¬ Own S w k := fun k hk hn c => by
    rcases c with c | c
    · exact hn c
    · omega
  have far : ∀ k, k < w.heap.size → ¬ S k → k ≠ p → ¬ (k = p ∨ Own S w k) := fun k hk hn hp c => by
    rcases c with c | c
    · exact hp c
    · exact hown k hk hn c
  exact
    { h with
      box := h.box.keep F (far bx hb h.bS.1 h.bS.2.2.1)
      en := he
      de := h.de.keep F (fun k hk => far k (hl k hk) (h.dS k hk).1 (h.dS k hk).2) (far p2 hp2 h.dp.1 h.dp.2)
      dS := fun k hk => ⟨fun c => hown k (hl k hk) (h.dS k hk).1 (hS k c), (h.dS k hk).2⟩
      dp := ⟨fun c => hown p2 hp2 h.dp.1 (hS p2 c), h.dp.2⟩
      bS := ⟨fun c => hown bx hb h.bS.1 (hS bx c), h.bS.2⟩
      lS := fun k hk => by
        rcases hS k hk with c | c
        · exact h.lS k c
        · exact Nat.le_trans hs c
      frm := h.frm.trans (F.mono (fun k hk => by
        rcases hk with c | c | c
        · rw [c]; exact h.lp.1
        · exact h.lS k c
        · exact Nat.le_trans hs c)) }
theorem HSt.dec (h : HSt W bx f S p g E ch ls S2 p2 g2 D w) (hd : RDeAt S' w' p2 g2 D') (F : Frm (fun k => k = p2 ∨ Own S2 w k) w w') (hS : ∀ k, S' k → Own S2 w k) : HSt W bx f S p g E ch ls S' p2 g2 D' w' := by
  have hb := h.box.lt
  have hl := h.en.tab.low
  have hp := h.en.blk.lt
  have hs := h.frm.size
  have hown : ∀ k, k < w.heap.size → ¬ S2 k → ¬ Own S2 w k := fun k hk hn c => by
    rcases c with c | c
    · exact hn c
    · omega
  have far : ∀ k, k < w.heap.size → ¬ S2 k → k ≠ p2 → ¬ (k = p2 ∨ Own S2 w k) := fun k hk hn hp c => by
    rcases c with c | c
    · exact hp c
    · exact hown k hk hn c
  have hpS : ¬ S2 p := fun c => (h.dS p c).2 rfl
  have hSn : ∀ k, S k → ¬ S2 k := fun k hk c => (h.dS k c).1 hk
  exact
    { h with
      box := h.box.keep F (far bx hb h.bS.2.1 h.bS.2.2.2)
      en := h.en.keep F (fun k hk => far k (hl k hk) (hSn k hk) (fun e => h.dp.1 (by rw [← e]; exact hk))) (far p hp hpS (fun e => h.dp.2 e.symm))
      de := hd
      dS := fun k hk => by
        rcases hS k hk with c | c
        · exact h.dS k c
        · exact ⟨fun c2 => by have := hl k c2; omega, by omega⟩
      bS := ⟨h.bS.1, fun c => hown bx hb h.bS.2.1 (hS bx c), h.bS.2.2⟩
      lS2 := fun k hk => by
        rcases hS k hk with c | c
        · exact h.lS2 k c
        · exact Nat.le_trans hs c
      frm := h.frm.trans (F.mono (fun k hk => by
        rcases hk with c | c | c
        · rw [c]; exact h.lp.2
        · exact h.lS2 k c
        · exact Nat.le_trans hs c)) }
end

theorem byte_cell {w : World} {g off : Nat} {b : Bytes} (h : Rd w (some ⟨g, off, none⟩) (bvs b)) {i : Nat} {x : UInt8} (hx : b[i]? = some x) : w.cell? ⟨g, off + i, none⟩ = some (.int .u8 (x.toNat : Int)) := by
  obtain ⟨g2, off2, e, h2⟩ := h i (.int .u8 (x.toNat : Int)) (by simp [bvs, bv, hx])
  simp only [Option.some.injEq, Addr.mk.injEq] at e
  obtain ⟨rfl, rfl, _⟩ := e
  exact h2
theorem get_mid (pre l suf : Bytes) (i : Nat) (h : i < l.length) : (pre ++ (l ++ suf))[pre.length + i]? = l[i]? := by
  rw [List.getElem?_append_right (by omega), Nat.add_sub_cancel_left, List.getElem?_append_left h]
theorem and_31 (x : Nat) (hx : x < 256) : (bits .and .u8 (x : Int) 31 == 31) = decide (x % 32 = 31) := by
  have key : ∀ x : Fin 256, (bits .and .u8 (x.val : Int) 31 == 31) = decide (x.val % 32 = 31) := by decide +kernel
  exact key ⟨x, hx⟩

set_option maxRecDepth 100000 in
set_option maxHeartbeats 4000000 in
theorem hsz_walk (A : Option Addr) (n c : Nat) (us : List Nat) (f : Fld) (W : World) (h : UIn W A n c us) (hf : f.1.length ≤ 1125899906842624 ∧ f.2.length ≤ 1125899906842624) :
    Calls Try.prog 7 #[.slice A n c, fld f] W fun e w' => e = .returned (.bool true) ∧ Below W.heap.size W w' := by
  obtain ⟨hn, hR, hsm, hcap⟩ := h
  subst hn
  obtain ⟨f1, f2⟩ := f
  obtain ⟨hf1, hf2⟩ := hf
  simp only at hf1 hf2
  simp only [fld, str]
  have e1 := str_size f1
  have e2 := str_size f2
  have hB1 := Blk.new W 30 #[.string ⟨f1.toArray⟩, .string ⟨f2.toArray⟩]
  have hF1 : Frm (New W) W (W.alloc (Obj.cells #[.string ⟨f1.toArray⟩, .string ⟨f2.toArray⟩] 30)) := (Frm.refl _ _).alloc Up.new _
  have HR := Lib.hid hR
  have HSM := Lib.hid hsm
  have HB1 := Lib.hid hB1
  have HF1 := Lib.hid hF1
  clear hR hsm hB1 hF1
  go_enter Try.func7, Try.ntmps7
  go_upto_region 1 with (fail)
  generalize W.alloc (Obj.cells #[.string ⟨f1.toArray⟩, .string ⟨f2.toArray⟩] 30) = W1 at *
  generalize hbx : W.heap.size = bx at *
  have HBX := Lib.hid hbx
  clear hbx
  go_wp2_with (fail)
  refine (known7_any _).mono ?_
  rintro e w2 ⟨rfl, hF2⟩
  have hB2 := HB1.out.fresh hF2
  have hF12 := HF1.out.then_new Up.new hF2
  have hx1 := hB2.cell 0
  have hx2 := hB2.cell 1
  simp only [List.getElem?_toArray, List.getElem?_cons_zero, List.getElem?_cons_succ] at hx1 hx2
  have hbl := hB2.lt
  have HB2 := Lib.hid hB2
  have HF12 := Lib.hid hF12
  clear hB2 hF12
  clear hF2 HB1 HF1
  by_cases q1 : 6 < us.length
  · go_wp2
    go_ret
    exact ⟨rfl, HF12.out.below⟩
  have hw1 : IntKind.i64.wrap ((f1.length : Int) + (f2.length : Int)) = ((f1.length + f2.length : Nat) : Int) := by
    rw [show ((f1.length : Int) + (f2.length : Int)) = ((f1.length + f2.length : Nat) : Int) from by omega]
    exact IntWalk.i64_in _ (by omega)
  by_cases q2 : 100 < f1.length + f2.length
  · generalize f1.length + f2.length = fl at *
    go_wp2
    go_ret
    exact ⟨rfl, HF12.out.below⟩
  have hfl := Lib.hid q2
  go_upto_region 5 with (fail)
  clear hw1 q2
  go_wp2_with (fail)
  refine (enew_any 4096 (by omega) (by omega) _).mono ?_
  rintro e w3 ⟨S, p, g, rfl, hE3, hF3, hS3, hp3⟩
  have hB3 := HB2.out.fresh hF3
  have hF13 := HF12.out.then_new Up.new hF3
  have HE3 := Lib.hid hE3
  have HB3 := Lib.hid hB3
  have HF13 := Lib.hid hF13
  clear hE3 hB3 hF13
  clear hx1 hx2
  go_wp2_with (fail)
  refine (rdnew_any 4096 (by omega) (by omega) _).mono ?_
  rintro e w4 ⟨S2, p2, g2, rfl, hD4, hF4, hS4, hp4⟩
  have hl96 : lim 4096 = 4096 := by decide
  rw [hl96] at hD4
  have hH : Hid (HSt W bx (f1, f2) S p g (rsz E0 (us.take 0)) false 0 S2 p2 g2 D0 w4) := by
    have hb2 := HB2.out.lt
    have hlow := HE3.out.tab.low
    have hpl := HE3.out.blk.lt
    have hsz := HF12.out.size
    have hs3 := hF3.size
    refine ⟨HB3.out.fresh hF4, HE3.out.fresh hF4, hD4, fun k hk => ?_, ⟨fun c => ?_, ?_⟩, ⟨fun c => ?_, fun c => ?_, ?_, ?_⟩, fun k hk => ?_, fun k hk => ?_, ⟨?_, ?_⟩, HF13.out.then_new Up.new hF4⟩
    · have h1 := hS4 k hk
      exact ⟨fun c => by have := hlow k c; omega, by omega⟩
    · have := hlow p2 c; omega
    · omega
    · have := hS3 bx c; omega
    · have := hS4 bx c; omega
    · omega
    · omega
    · have := hS3 k hk; omega
    · have := hS4 k hk; omega
    · omega
    · omega
  clear HE3 hD4 hF3 hF4 hS3 hS4 hp3 hp4 HB3 HF13 HB2 HF12 hl96 hbl
  go_wp2
  go_loopw [7] (fun i wr => ∃ (k : Nat) (S' : Nat → Prop) (ch : Bool) (ls : Nat), k ≤ us.length ∧ i = .int .i64 k ∧ Hid (HSt W bx (f1, f2) S' p g (rsz E0 (us.take k)) ch ls S2 p2 g2 D0 wr)) (fun i _ => us.length - (intOf i).toNat)
  case atStart => exact ⟨0, S, false, 0, Nat.zero_le _, rfl, hH⟩
  case round =>
    obtain ⟨k, S', ch, ls, hk, rfl, hS⟩ := hrel
    clear hH
    by_cases hlt : k < us.length
    · have hRd := HR.out.fresh hS.out.frm
      obtain ⟨gu, off, rfl, hx⟩ := hRd.at_ (k := k) (by simpa [u16s_] using hlt)
      simp only [u16s_, List.getElem_map] at hx
      have hus := HSM.out us[k] (List.getElem_mem hlt)
      have hst : Hid (rsz E0 (us.take (k + 1)) = (rsz E0 (us.take k)).resize ((us[k] % 4097 : Nat) : Int)) := by show _ = _; rw [List.take_succ_eq_append_getElem hlt, rsz_snoc]
      generalize us[k] = v at *
      generalize hE2e : rsz E0 (us.take (k + 1)) = E2 at *
      generalize rsz E0 (us.take k) = E1 at *
      have HRD := Lib.hid hRd
      have HE2E := Lib.hid hE2e
      clear hRd hE2e
      have hmod : ((v % 4097 : Nat) : Int) = (v : Int) % 4097 := by omega
      rw [hmod] at hst
      clear hmod
      go_wp2_with (fail)
      refine (eresize_any ((v : Int) % 4097) (by omega) (by omega) _ hS.out.en).mono ?_
      rintro e w5 ⟨rfl, ls', hE5, hF5⟩
      rw [← hst.out] at hE5
      have hS5 := Lib.hid (hS.out.enc hE5 hF5 (fun k hk => .inl hk))
      clear hE5 hF5
      go_wp2
      go_roundw
      case rel => exact ⟨k + 1, S', true, ls', by omega, by go_num, by rw [HE2E.out]; exact hS5⟩
      case measure => simp [intOf]; omega
    · obtain rfl : k = us.length := by omega
      have hok := rsz_ok us.length us (Nat.le_refl _)
      rw [List.take_length] at hS hok
      obtain ⟨x, t, hb, hx32, hrun, y, s, hb2, hy32⟩ := sizes_all hok (f1, f2) (by have := hfl.out; simp only; omega)
      obtain ⟨hml, hms⟩ := szs_len hok
      have hn0 := hok.n
      have hfz : fsizes [(f1, f2)] ≤ 68719476736 := by simp [fsizes, fsize]; have := hfl.out; omega
      have hRu := HR.out.fresh hS.out.frm
      generalize hms_ : szs (rsz E0 us) = ms at *
      generalize hEE : rsz E0 us = E at *
      have hbl := linesB_le E.t [(f1, f2)]
      have hsb := sizeB_le E
      have hbbl : (E.encB [(f1, f2)]).length ≤ 68719476736 := by
        show (E.sizeB ++ linesB E.t [(f1, f2)]).length ≤ _
        have hfz3 : fsizes [(f1, f2)] ≤ 132 := by simp [fsizes, fsize]; have := hfl.out; omega
        rw [List.length_append]; omega
      clear hsb
      generalize hbb : E.encB [(f1, f2)] = bb at *
      generalize hE1 : E.enc [(f1, f2)] = E1 at *
      have hE1n : E1.t.n ≤ 1 := by
        rw [← hE1]
        have := linesT_n E.t [(f1, f2)]
        simp only [List.length_cons, List.length_nil] at this
        show (linesT E.t [(f1, f2)]).n ≤ 1
        omega
      generalize hbb2 : E1.encB [(f1, f2)] = bb2 at *
      have HOK := Lib.hid hok
      have HMS_ := Lib.hid hms_
      have HEE := Lib.hid hEE
      have HBB := Lib.hid hbb
      have HE1 := Lib.hid hE1
      have HBB2 := Lib.hid hbb2
      have HRUN := Lib.hid hrun
      have HRU := Lib.hid hRu
      have HB := Lib.hid hb
      have HB2 := Lib.hid hb2
      have HMS := Lib.hid hms
      have HML := Lib.hid hml
      have HFZ := Lib.hid hfz
      clear hok hms_ hEE hbb hE1 hbb2 hrun hRu hb hb2 hms hml hfz
      clear hbl
      have hbx9 := hS.out.box
      have hx1 := hbx9.cell 0
      have hx2 := hbx9.cell 1
      simp only [List.getElem?_toArray, List.getElem?_cons_zero, List.getElem?_cons_succ] at hx1 hx2
      have hbxl := hbx9.lt
      have HBX9 := Lib.hid hbx9
      clear hbx9
      go_wp2_with (fail)
      have hS4 := hS.out.fresh ((Frm.refl _ wr).alloc Up.new (Obj.cells #[.string ⟨f1.toArray⟩, .string ⟨f2.toArray⟩] 30))
      refine (encB_any [(f1, f2)] _ 1 _ hS4.en (Rd.new _ #[.string ⟨f1.toArray⟩, .string ⟨f2.toArray⟩] _) (fun k hk => by
        have h1 := hS.out.en.blk.lt
        have hk2 : wr.heap.size = k := by simpa using hk
        exact ⟨by omega, fun c => by have := hS.out.en.tab.low _ c; omega⟩) HFZ.out (by rw [hn0]; simp)).mono ?_
      rintro e w5 ⟨S5, A5, c5, rfl, hA5, hfar5, hE5, hF5, hS5⟩
      rw [HBB.out] at hA5
      rw [HE1.out] at hE5
      have hS6 := Lib.hid (hS4.enc hE5 hF5 hS5)
      have hln5 : ([(f1, f2)] : List Fld).length = 1 := rfl
      rw [HBB.out]
      have hA5c := hA5.cap
      have hA5m : ∀ k, blk A5 = some k → k ≠ p2 ∧ ¬ S2 k ∧ k < w5.heap.size := fun k hk => by
        have h1 := hA5.inM k hk
        have h2 := hS4.de.blk.lt
        have h3 := bvs_lt hA5 (by rw [HB.out]; simp; omega) k hk
        refine ⟨by unfold New at h1; omega, fun c => ?_, h3⟩
        have := hS4.de.tab.low k c
        unfold New at h1
        omega
      have hRb := hA5.rd
      have hRu5 := HR.out.fresh hS6.out.frm
      have HA5 := Lib.hid hA5
      have HA5M := Lib.hid hA5m
      have HRB := Lib.hid hRb
      have HRU5 := Lib.hid hRu5
      clear hA5 hA5m hRb hRu5
      clear hS4 hE5 hF5 hS5 hfar5 hS HRU hln5 hx1 hx2 hbxl HBX9
      go_wp2
      go_loop [9, 10, 11] (fun vn vl vi => ∃ k : Nat, k ≤ us.length ∧ vi = .int .i64 k ∧ vl = .int .i64 ((mins (us.take k) : Nat) : Int) ∧ vn = .int .i64 ((if k = 0 then 0 else 1 : Nat) : Int)) (fun _ _ i => us.length - (intOf i).toNat)
      case atStart => exact ⟨0, Nat.zero_le _, rfl, rfl, rfl⟩
      case round =>
        obtain ⟨k, hk, rfl, rfl, rfl⟩ := hrel
        by_cases hlt : k < us.length
        · obtain ⟨gu, off, rfl, hx⟩ := HRU5.out.at_ (k := k) (by simpa [u16s_] using hlt)
          simp only [u16s_, List.getElem_map] at hx
          have hus := HSM.out us[k] (List.getElem_mem hlt)
          have hst : Hid (mins (us.take (k + 1)) = min (mins (us.take k)) (us[k] % 4097)) := by show _ = _; rw [List.take_succ_eq_append_getElem hlt, mins_snoc]
          generalize us[k] = v at *
          generalize mins (us.take k) = m at *
          go_wp2
          go_round
          case rel => exact ⟨k + 1, by omega, by go_num, congrArg (Value.int .i64) (by rw [hst.out]; omega), rfl⟩
          case measure => simp [intOf]; omega
        · obtain rfl : k = us.length := by omega
          rw [List.take_length]
          have hcc := cnt2_cases us
          obtain ⟨n0, hn0e⟩ : ∃ n0 : Nat, n0 = (if us.length = 0 then 0 else 1) := ⟨_, rfl⟩
          rw [← hn0e]
          generalize mins us = m at *
          generalize hc2e : cnt2 us = c2 at *
          have hcn : (us = [] ∧ c2 = 0 ∧ n0 = 0) ∨ (us.length ≠ 0 ∧ n0 = 1 ∧ ∃ v, us[us.length - 1]? = some v ∧ ((m < v % 4097 ∧ c2 = 2) ∨ (¬ m < v % 4097 ∧ c2 = 1))) := by
            rcases hcc with ⟨he, hc2⟩ | ⟨hne, v, _, hv, hc2⟩
            · exact .inl ⟨he, hc2, by rw [hn0e, he]; rfl⟩
            · exact .inr ⟨hne, by rw [hn0e, if_neg hne], v, hv, hc2⟩
          have HC2E := Lib.hid hc2e
          have HN0E := Lib.hid hn0e
          clear hc2e hn0e
          clear hcc
          go_upto_region 17 with (fail)
          go_cut [79] from 52 to 79 (fun v79 w6 => v79 = .bool (decide (c2 = 2)) ∧ w5 = w6)
          case first =>
            rcases hcn with ⟨he, hc2, hn1⟩ | ⟨hne, hn1, v, hv, hc2⟩
            · have hn2 : ((n0 : Int) == 1) = false := by rw [hn1]; rfl
              clear he hn1
              go_wp2
              go_meet
              exact ⟨by rw [hc2]; rfl, rfl⟩
            · have hn2 : ((n0 : Int) == 1) = true := by rw [hn1]; rfl
              obtain ⟨gu, off, hAe, hx⟩ := HRU5.out.at_ (k := us.length - 1) (by simp [u16s_]; omega)
              have hv2 : us[us.length - 1]'(by omega) = v := by rw [List.getElem?_eq_getElem (by omega)] at hv; exact Option.some.inj hv
              simp only [u16s_, List.getElem_map, hv2] at hx
              have hvb := HSM.out v (by rw [← hv2]; exact List.getElem_mem _)
              have hw1 : IntKind.i64.wrap ((us.length : Int) - 1) = ((us.length - 1 : Nat) : Int) := by
                rw [show ((us.length : Int) - 1) = ((us.length - 1 : Nat) : Int) from by omega]; exact IntWalk.i64_in _ (by omega)
              have hlu : us.length - 1 < us.length := by omega
              subst hAe
              clear hv hv2 hn1
              generalize us.length - 1 = lm at *
              rcases hc2 with ⟨h1, h2⟩ | ⟨h1, h2⟩
              · have h3 : (m : Int) < (v : Int) % 4097 := by omega
                go_wp2
                go_meet
                exact ⟨by rw [h2]; (simp <;> omega), rfl⟩
              · have h3 : ¬ (m : Int) < (v : Int) % 4097 := by omega
                go_wp2
                go_meet
                exact ⟨by rw [h2]; (simp <;> omega), rfl⟩
          case rest =>
            obtain ⟨rfl, rfl⟩ := hcut
            go_upto_if 79 with (fail)
            go_cut [9] from 52 to 79 (fun v9 w6 => v9 = .int .i64 (c2 : Int) ∧ w5 = w6)
            case first =>
              by_cases h2 : c2 = 2
              · rw [decide_eq_true h2]
                go_wp2
                go_meet
                exact ⟨by rw [h2]; rfl, rfl⟩
              · rw [decide_eq_false h2]
                have hnc : Hid (n0 = c2) := by
                  show _ = _
                  rcases hcn with ⟨_, h3, h4⟩ | ⟨_, h4, _, _, ⟨_, h3⟩ | ⟨_, h3⟩⟩ <;> omega
                clear hcn
                go_wp2
                go_meet
                exact ⟨by rw [hnc.out], rfl⟩
            case rest =>
              obtain ⟨rfl, rfl⟩ := hcut
              have hgA : ∃ gA oA, A5 = some ⟨gA, oA, none⟩ := by
                obtain ⟨g9, o9, e9, _⟩ := HRB.out.at_ (k := 0) (by rw [bvs_length, HB.out]; simp; omega)
                exact ⟨g9, o9, e9⟩
              obtain ⟨gA, oA, rfl⟩ := hgA
              have hgl := (HA5M.out gA rfl).2.2
              have hup := upTo_all ms
              clear hcn
              have hbyte : ∀ (j : Nat) (hj : j < ms.length) (i : Nat), i < (pfx 32 5 ms[j]).length → bb[upTo ms j + i]? = (pfx 32 5 ms[j])[i]? ∧ upTo ms j + (pfx 32 5 ms[j]).length ≤ bb.length := fun j hj i hi => by
                obtain ⟨pre, suf, e9, h9⟩ := upTo_split ms (x :: t) j hj
                rw [HB.out, e9, ← h9]
                refine ⟨get_mid pre _ suf i hi, ?_⟩
                simp only [List.length_append]
                omega
              have hlast : bb[(ms.flatMap (pfx 32 5)).length]? = some x ∧ (ms.flatMap (pfx 32 5)).length < bb.length := by
                rw [HB.out]
                refine ⟨by rw [List.getElem?_append_right (Nat.le_refl _)]; simp, by rw [List.length_append, List.length_cons]; omega⟩
              obtain ⟨hlast, hlast2⟩ := hlast
              have hxb := x.toNat_lt
              have hx224 := and_224 x.toNat (by omega)
              rw [decide_eq_false hx32] at hx224
              have hxc := byte_cell HRB.out hlast
              generalize hatl : (ms.flatMap (pfx 32 5)).length = atl at *
              have HUP := Lib.hid hup
              have HBYTE := Lib.hid hbyte
              have HLAST := Lib.hid hlast
              have HATL := Lib.hid hatl
              clear hup hbyte hlast hatl
              go_wp2
              go_loop [12, 13] (fun vg va => ∃ j : Nat, j ≤ ms.length ∧ vg = .int .i64 j ∧ va = .int .i64 ((upTo ms j : Nat) : Int)) (fun vg _ => ms.length - (intOf vg).toNat)
              case atStart => exact ⟨0, Nat.zero_le _, rfl, rfl⟩
              case round =>
                obtain ⟨j, hj, rfl, rfl⟩ := hrel
                by_cases hlt2 : j < ms.length
                · have hus := upTo_succ ms j hlt2
                  have hby := HBYTE.out j hlt2
                  have hfm := pfx_form ms[j] (HMS.out _ (List.getElem_mem hlt2))
                  generalize pfx 32 5 ms[j] = P at *
                  generalize hu1 : upTo ms (j + 1) = u1 at *
                  generalize upTo ms j = u0 at *
                  have hml2 := HML.out
                  have hj2 : ms.length ≤ 2 := by
                    have h9 := cnt2_cases us
                    rw [HC2E.out] at h9
                    rw [hml2]
                    rcases h9 with ⟨_, h9⟩ | ⟨_, _, _, _, ⟨_, h9⟩ | ⟨_, h9⟩⟩ <;> omega
                  clear hml2 hx224 hxc
                  rcases hfm with ⟨a, ha0, ha1, rfl⟩ | ⟨v, hv, rfl⟩ | ⟨u, v, hu0, hub, hv, rfl⟩
                  · obtain ⟨h0, h0l⟩ := hby 0 (by simp)
                    have ht : (UInt8.ofNat a).toNat = a := by simp; omega
                    have hc0 := byte_cell HRB.out h0
                    rw [ht] at hc0
                    have h224 := and_224 a (by omega)
                    have h31 := and_31 a (by omega)
                    rw [decide_eq_true (by omega)] at h224
                    rw [decide_eq_false (by omega)] at h31
                    simp only [List.length_singleton, Nat.add_zero] at h0l hc0 hus
                    clear hby h0 ht
                    have HUS := Lib.hid hus
                    have HU1 := Lib.hid hu1
                    clear hus hu1
                    go_wp2
                    go_round
                    case rel => exact ⟨j + 1, by omega, by go_num, by rw [HU1.out, HUS.out]; go_num⟩
                    case measure => simp [intOf]; omega
                  · obtain ⟨h0, h0l⟩ := hby 0 (by simp)
                    obtain ⟨h1, _⟩ := hby 1 (by simp)
                    have ht : (UInt8.ofNat v).toNat = v := by simp; omega
                    have hc0 := byte_cell HRB.out h0
                    have hc1 := byte_cell HRB.out h1
                    rw [ht] at hc1
                    have h224 := and_224 63 (by omega)
                    have h31 := and_31 63 (by omega)
                    have h128 := and_128n v (by omega)
                    rw [decide_eq_true (by omega)] at h128
                    simp only [List.length_cons, List.length_nil, Nat.add_zero] at h0l hc0 hus
                    clear hby h0 h1 ht
                    have HUS := Lib.hid hus
                    have HU1 := Lib.hid hu1
                    clear hus hu1
                    have hc0' : w5.cell? ⟨gA, oA + u0, none⟩ = some (.int .u8 63) := hc0
                    have h224' : (bits .and .u8 63 224 == 32) = true := by decide
                    have h31' : (bits .and .u8 63 31 == 31) = true := by decide
                    clear hc0 h224 h31
                    go_wp2
                    go_loop [13] (fun va => va = .int .i64 ((u0 + 1 : Nat) : Int)) (fun _ => 0)
                    case atStart => go_num
                    case round =>
                      obtain rfl := hrel
                      go_wp2
                      go_round
                      case rel => exact ⟨j + 1, by omega, by go_num, by rw [HU1.out, HUS.out]; go_num⟩
                      case measure => simp [intOf]; omega
                  · obtain ⟨h0, h0l⟩ := hby 0 (by simp)
                    obtain ⟨h1, _⟩ := hby 1 (by simp)
                    obtain ⟨h2, _⟩ := hby 2 (by simp)
                    have htu : (UInt8.ofNat u).toNat = u := by simp; omega
                    have htv : (UInt8.ofNat v).toNat = v := by simp; omega
                    have hc0 := byte_cell HRB.out h0
                    have hc1 := byte_cell HRB.out h1
                    have hc2 := byte_cell HRB.out h2
                    rw [htu] at hc1
                    rw [htv] at hc2
                    have h128u := and_128n u (by omega)
                    have h128v := and_128n v (by omega)
                    rw [decide_eq_false (by omega)] at h128u
                    rw [decide_eq_true (by omega)] at h128v
                    simp only [List.length_cons, List.length_nil, Nat.add_zero] at h0l hc0 hus
                    clear hby h0 h1 h2 htu htv
                    have HUS := Lib.hid hus
                    have HU1 := Lib.hid hu1
                    clear hus hu1
                    have hc0' : w5.cell? ⟨gA, oA + u0, none⟩ = some (.int .u8 63) := hc0
                    have h224' : (bits .and .u8 63 224 == 32) = true := by decide
                    have h31' : (bits .and .u8 63 31 == 31) = true := by decide
                    clear hc0
                    go_wp2
                    go_loop [13] (fun va => ∃ i : Nat, i ≤ 1 ∧ va = .int .i64 ((u0 + 1 + i : Nat) : Int)) (fun va => u0 + 3 - (intOf va).toNat)
                    case atStart => exact ⟨0, by omega, by go_num⟩
                    case round =>
                      obtain ⟨i, hi, rfl⟩ := hrel
                      have hi01 : i = 0 ∨ i = 1 := by omega
                      rcases hi01 with rfl | rfl
                      · go_wp2
                        go_round
                        case rel => exact ⟨1, by omega, by go_num⟩
                        case measure => simp [intOf]; omega
                      · go_wp2
                        go_round
                        case rel => exact ⟨j + 1, by omega, by go_num, by rw [HU1.out, HUS.out]; go_num⟩
                        case measure => simp [intOf]; omega
                · obtain rfl : j = ms.length := by omega
                  rw [HUP.out, HML.out]
                  go_wp2_with (fail)
                  refine (rdecode_any bb (some ⟨gA, oA, none⟩) c5 w5 hS6.out.de HRB.out hA5c HA5M.out hbbl (by show 0 + _ ≤ _; omega)).mono ?_
                  rintro e w7 hres
                  unfold RDRes at hres
                  rw [HRUN.out] at hres
                  obtain ⟨S7, D7, hD7, hF7, hS7, A7, c7, rfl, hA7, hfar7, hD7e⟩ := hres
                  have hS7' := Lib.hid (hS6.out.dec hD7 hF7 hS7)
                  have hA7b : Hid (∀ k, blk A7 = some k → k ≠ p ∧ ¬ S5 k ∧ k < w7.heap.size) := fun k hk => by
                    have h1 := hA7.inM k hk
                    have h2 := hS6.out.en.blk.lt
                    obtain ⟨g9, o9, e9, h9⟩ := hA7.rd.lt (by simp [fvs])
                    rw [e9] at hk
                    have hk2 : g9 = k := by simpa using hk
                    refine ⟨by unfold New at h1; omega, fun c => ?_, by omega⟩
                    have := hS6.out.en.tab.low k c
                    unfold New at h1
                    omega
                  have hbx7 := hS7'.out.box
                  have hx1 := hbx7.cell 0
                  have hx2 := hbx7.cell 1
                  simp only [List.getElem?_toArray, List.getElem?_cons_zero, List.getElem?_cons_succ] at hx1 hx2
                  have hbxl := hbx7.lt
                  have hl1 : ([(f1, f2)] : List Fld).length = 1 := rfl
                  have HBX7 := Lib.hid hbx7
                  have HA7 := Lib.hid hA7
                  clear hbx7 hA7
                  clear hD7 hF7 hS7 hfar7 hD7e hxc hx224 hS6 HRB HA5M HA5 HBYTE HLAST
                  go_wp2_with (fail)
                  have hFa := (Frm.refl (New w7) w7).alloc Up.new (Obj.cells #[.string ⟨f1.toArray⟩, .string ⟨f2.toArray⟩] 30)
                  have hS8 := hS7'.out.fresh hFa
                  refine (encB_any [(f1, f2)] _ 1 _ hS8.en (Rd.new _ #[.string ⟨f1.toArray⟩, .string ⟨f2.toArray⟩] _) (fun k hk => by
                    have h1 := hS7'.out.en.blk.lt
                    have hk2 : w7.heap.size = k := by simpa using hk
                    exact ⟨by omega, fun c => by have := hS7'.out.en.tab.low _ c; omega⟩) HFZ.out (by rw [hl1]; omega)).mono ?_
                  rintro e w8 ⟨S8, A8, c8, rfl, hA8, hfar8, hE8, hF8, hS8s⟩
                  rw [HBB2.out] at hA8 ⊢
                  have hS9 := hS8.enc hE8 hF8 hS8s
                  have hA9 : Rd w8 A7 (fvs [(f1, f2)]) := (HA7.out.rd.fresh hFa).keep hF8 (fun k hk c => by
                    obtain ⟨a1, a2, a3⟩ := hA7b.out k hk
                    rcases c with c | c | c
                    · exact a1 c
                    · exact a2 c
                    · have := hFa.size
                      simp at c
                      omega)
                  have hRy := hA8.rd
                  have hA8c := hA8.cap
                  obtain ⟨g8, o8, rfl, hy9⟩ := hRy.at_ (k := 0) (by rw [bvs_length, HB2.out]; simp)
                  clear hy9
                  have hyb := y.toNat_lt
                  have hy224 := and_224 y.toNat (by omega)
                  rw [decide_eq_false hy32] at hy224
                  have hyne : (bits .and .u8 (y.toNat : Int) 224 != 32) = true := by rw [bne, hy224]; rfl
                  have hyg : bb2[0]? = some y := by rw [HB2.out]; rfl
                  have hb2l : ((bb2.length : Int) == 0) = false := by rw [beq_eq_false_iff_ne, HB2.out]; simp; omega
                  have hb2p : 0 < bb2.length := by rw [HB2.out]; simp
                  have hbx8 := hS9.box
                  clear hx1 hx2 hbxl
                  have hx1 := hbx8.cell 0
                  have hx2 := hbx8.cell 1
                  simp only [List.getElem?_toArray, List.getElem?_cons_zero, List.getElem?_cons_succ] at hx1 hx2
                  have hbxl := hbx8.lt
                  have HBX8 := Lib.hid hbx8
                  have HA9 := Lib.hid hA9
                  have HRY := Lib.hid hRy
                  have HS9 := Lib.hid hS9
                  have HYG := Lib.hid hyg
                  clear hbx8 hA9 hRy hS9 hyg
                  clear hE8 hF8 hS8s hfar8 hS8 hFa hA8 hS7'
                  go_wp2_with (fail)
                  have hFb := (Frm.refl (New w8) w8).alloc Up.new (Obj.cells #[.string ⟨f1.toArray⟩, .string ⟨f2.toArray⟩] 30)
                  refine (fields_eq [(f1, f2)] A7 _ c7 1 _ (HA9.out.fresh hFb) (Rd.new _ #[.string ⟨f1.toArray⟩, .string ⟨f2.toArray⟩] _) (by simp)).mono ?_
                  rintro e w9 ⟨rfl, nn, hw9⟩
                  have hF9 : Frm (New w8) w8 w9 := by rw [hw9]; exact hFb.drewN nn
                  have hyc := byte_cell (HRY.out.fresh hF9) HYG.out
                  have hg8 := World.block_lt_of_cell? _ _ hyc
                  simp only [Nat.add_zero] at hyc
                  have HF9 := Lib.hid hF9
                  clear hF9
                  clear hw9 hFb hx1 hx2 hbxl
                  go_wp2
                  go_ret
                  exact ⟨rfl, (HS9.out.frm.then_new Up.new HF9.out).below⟩
end Go.Proofs.Ytcebckkpablagaa.M
