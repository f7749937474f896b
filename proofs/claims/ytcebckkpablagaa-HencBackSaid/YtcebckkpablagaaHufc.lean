/- Package huff: codes: the table that it makes. No condition. -/
import Derived.Test.YtcebckkpablagaaHufb
namespace Go.Proofs.Ytcebckkpablagaa.M
open Go.ChangeShapes Go.WideShapes Go.ChangeAt Go.RowKit

/-- pairs of numbers as cells -/
def vP (k1 k2 : IntKind) (l : List (Nat × Nat)) : Array Value := (l.flatMap fun p => [Value.int k1 (p.1 : Int), Value.int k2 (p.2 : Int)]).toArray
section
variable {k1 k2 : IntKind}
theorem vP_size (l : List (Nat × Nat)) : (vP k1 k2 l).size = 2 * l.length := by
  simp only [vP, List.size_toArray]
  induction l with
  | nil => rfl
  | cons p l ih => simp only [List.flatMap_cons, List.length_append, List.length_cons, List.length_nil, ih]; omega
theorem vP_get : ∀ (l : List (Nat × Nat)) (i : Nat), i < l.length → (vP k1 k2 l)[i * 2]? = some (.int k1 (((l.getD i (0, 0)).1 : Nat) : Int)) ∧ (vP k1 k2 l)[i * 2 + 1]? = some (.int k2 (((l.getD i (0, 0)).2 : Nat) : Int))
  | [], i, h => by simp at h
  | p :: l, 0, _ => by simp [vP]
  | p :: l, i + 1, h => by
    have ih := vP_get l i (by simpa using h)
    simp only [vP, List.getElem?_toArray, List.flatMap_cons] at ih ⊢
    rw [show (i + 1) * 2 = i * 2 + 2 from by omega]
    exact ⟨ih.1, ih.2⟩
theorem vP_set (l : List (Nat × Nat)) : ∀ (i x y : Nat), ((vP k1 k2 l).setIfInBounds (i * 2) (.int k1 (x : Int))).setIfInBounds (i * 2 + 1) (.int k2 (y : Int)) = vP k1 k2 (l.set i (x, y)) := by
  induction l with
  | nil => intro i x y; rfl
  | cons p l ih =>
    intro i x y
    apply Array.ext'
    cases i with
    | zero => simp [vP]
    | succ i =>
      have := congrArg Array.toList (ih i x y)
      simp only [vP, Array.toList_setIfInBounds] at this ⊢
      rw [show (i + 1) * 2 = i * 2 + 2 from by omega]
      simp only [List.flatMap_cons, List.cons_append, List.nil_append, List.set_cons_succ]
      rw [this]
theorem vP_one (l : List (Nat × Nat)) : ∀ u ∈ (vP k1 k2 l).toList, u.oneCell' = true := fun u hu => by
  simp only [vP] at hu
  obtain ⟨p, _, hp⟩ := List.mem_flatMap.1 hu
  simp at hp
  rcases hp with rfl | rfl <;> rfl
end

/-- the next code of each length when k signs have theirs; the codes then -/
def nextTo (k : Nat) : List Nat := (lens.take k).foldl bump (firstTo 30)
def codesTo : Nat → List (Nat × Nat)
  | 0 => List.replicate 257 (0, 0)
  | k + 1 => (codesTo k).set k ((nextTo k).getD (lens.getD k 0) 0, lens.getD k 0)
theorem nextTo_length (k : Nat) : (nextTo k).length = 32 := by
  unfold nextTo
  have : ∀ (l c : List Nat), (l.foldl bump c).length = c.length := by
    intro l; induction l with
    | nil => intro c; rfl
    | cons x l ih => intro c; simp [List.foldl_cons, ih, bump_length]
  rw [this, firstTo_length]
theorem nextTo_succ (k : Nat) (h : k < 257) : nextTo (k + 1) = bump (nextTo k) (lens.getD k 0) := by
  have hk : k < lens.length := by rw [lens_length]; exact h
  unfold nextTo
  rw [List.take_succ_eq_append_getElem hk, List.foldl_append]
  simp [List.getElem?_eq_getElem hk]
theorem codesTo_length (k : Nat) : (codesTo k).length = 257 := by
  induction k with
  | zero => exact List.length_replicate
  | succ k ih => simp [codesTo, ih]
theorem nextTo_le (k : Nat) (i : Nat) (hi : i ≤ 30) : (nextTo k).getD i 0 ≤ 1073741824 + k := by
  have key : ∀ (l c : List Nat) (i : Nat), (l.foldl bump c).getD i 0 ≤ c.getD i 0 + l.length := by
    intro l; induction l with
    | nil => intro c i; simp
    | cons x l ih =>
      intro c i
      rw [List.foldl_cons]
      have h1 := ih (bump c x) i
      have h2 : (bump c x).getD i 0 ≤ c.getD i 0 + 1 := by
        unfold bump
        by_cases hx : x = i
        · subst hx
          by_cases hl : x < c.length
          · rw [List.getD_eq_getElem?_getD, List.getElem?_set_self hl]; simp
          · rw [List.getD_eq_getElem?_getD, List.getElem?_eq_none (by simp; omega)]; exact Nat.zero_le _
        · rw [List.getD_eq_getElem?_getD, List.getElem?_set_ne hx, ← List.getD_eq_getElem?_getD]; omega
      simp only [List.length_cons]
      omega
  have h1 := key (lens.take k) (firstTo 30) i
  have h2 := firstTo_small ⟨30, by omega⟩ ⟨i, by omega⟩
  have h3 : (lens.take k).length ≤ k := List.length_take_le _ _
  simp only at h2
  unfold nextTo
  omega
/-- all codes -/
def codes : List (Nat × Nat) := codesTo 257
theorem codes_length : codes.length = 257 := codesTo_length 257

theorem run_index_agg {P : Program} (T e n : Nat) (hT : P.underlying T = some (.array n e)) (he : P.underlying e = some (.int .u8)) (hs : (P.info? e).map (·.size) = some 1)
    (cs : Array Value) (i : Nat) (hi : i < n) (v : Value) (hv : cs[i]? = some v) (w : World) : (Instr.index T (.agg cs) (.int .i64 i)).run P w = .ok v w := by
  cases hq : P.info? e with
  | none => rw [hq] at hs; cases hs
  | some q =>
    rw [hq] at hs
    have hs' : q.size = 1 := by simpa using hs
    simp [Instr.index, asIntOf, run_underlying hT, run_underlying he, hi, sizeOf, typeInfo, hq, hs', part, isAgg, hv]

theorem a151 : Agg Try.prog 151 514 := ⟨⟨_, Try.underlying151, rfl⟩, by kernel_rfl⟩
theorem z151 : (Try.prog.info? 151).map (·.zero) = some (some (.agg (vP .u32 .i64 (List.replicate 257 (0, 0))))) := by kernel_rfl
theorem idx147 (i : Nat) (hi : i < 257) (w : World) : (Instr.index 147 (.agg LENS) (.int .i64 i)).run Try.prog w = .ok (.int .u8 ((lens.getD i 0 : Nat) : Int)) w :=
  run_index_agg _ _ 257 Try.underlying147 Try.underlying5 (by kernel_rfl) LENS i hi _ (LENS_get i hi) w

/-- the loop of codes: k signs have their codes -/
structure Cod (w : World) (g k : Nat) (wr : World) : Prop where
  frm : Frm (New w) w wr
  le : w.heap.size + 1 < g
  r : Blk wr w.heap.size 151 (vP .u32 .i64 (List.replicate 257 (0, 0)))
  o : Blk wr (w.heap.size + 1) 151 (vP .u32 .i64 (codesTo k))
  n : Blk wr g 156 (vN .u32 (nextTo k))

theorem Cod.next {w wr : World} {g k : Nat} (h : Cod w g k wr) (hk : k < 257) :
    Cod w g (k + 1) (((wr.setCell ⟨w.heap.size + 1, k * 2, none⟩ (.int .u32 (((nextTo k).getD (lens.getD k 0) 0 : Nat) : Int))).setCell ⟨w.heap.size + 1, k * 2 + 1, none⟩ (.int .i64 ((lens.getD k 0 : Nat) : Int))).setCell ⟨g, lens.getD k 0, none⟩ (.int .u32 (((nextTo k).getD (lens.getD k 0) 0 : Nat) + 1 : Int))) := by
  obtain ⟨hF, hle, hr, ho, hn⟩ := h
  refine ⟨((hF.setCell (by show w.heap.size ≤ w.heap.size + 1; omega) _).setCell (by show w.heap.size ≤ w.heap.size + 1; omega) _).setCell (by show w.heap.size ≤ g; omega) _, hle, ?_, ?_, ?_⟩
  · exact ((hr.far (by simp) _).far (by simp) _).far (by show w.heap.size ≠ g; omega) _
  · refine Blk.far ?_ (by show w.heap.size + 1 ≠ g; omega) _
    have := (ho.set_ (k * 2) (.int .u32 (((nextTo k).getD (lens.getD k 0) 0 : Nat) : Int))).set_ (k * 2 + 1) (.int .i64 ((lens.getD k 0 : Nat) : Int))
    rw [vP_set] at this
    exact this
  · have h1 := (hn.far (p := ⟨w.heap.size + 1, k * 2, none⟩) (by show g ≠ w.heap.size + 1; omega) (.int .u32 (((nextTo k).getD (lens.getD k 0) 0 : Nat) : Int))).far (p := ⟨w.heap.size + 1, k * 2 + 1, none⟩) (by show g ≠ w.heap.size + 1; omega) (.int .i64 ((lens.getD k 0 : Nat) : Int))
    have := h1.set_ (lens.getD k 0) (.int .u32 (((nextTo k).getD (lens.getD k 0) 0 + 1 : Nat) : Int))
    rw [vN_set] at this
    rw [nextTo_succ k hk]
    exact this

set_option maxRecDepth 100000 in
set_option maxHeartbeats 2000000 in
theorem codes_any (w : World) : Calls Try.prog 92 #[] w fun e w' => e = .returned (.agg (vP .u32 .i64 codes)) ∧ Frm (New w) w w' := by
  have t1 := trivial
  have t2 := trivial
  have t3 := trivial
  have t4 := trivial
  have t5 := trivial
  have t6 := trivial
  have t7 := trivial
  have t8 := trivial
  have t9 := trivial
  go_enter Try.func92, Try.ntmps92
  go_wp2_with (first
    | (clear t1; refine wpList_new rfl rfl z151 rfl ?_; intro wa hba hFa hsa)
    | (clear t2; refine wpList_new rfl rfl z151 rfl ?_; intro wb hbb hFb hsb)
    | (go_at_call 91; refine (lengths_any _).mono ?_; rintro e wc ⟨rfl, hFc⟩)
    | (clear t3; refine wpList_new rfl rfl z147 rfl ?_; intro wd hbd hFd hsd)
    | (clear t4; refine wpList_store_agg rfl rfl rfl rfl hbd (by rw [LENS_size]; exact Z8_size 257) LENS_one (by rw [LENS_size]; exact a147.size) ?_; intro we hbe hFe hse)
    | (go_at_call 99; refine (firsts_any _ _ hbe).mono ?_; rintro e wf ⟨rfl, hFf⟩)
    | (clear t5; refine wpList_new rfl rfl z156 rfl ?_; intro wg hbg hFg hsg)
    | (clear t6; refine wpList_new rfl rfl z157 rfl ?_; intro wh hbh hFh hsh)
    | (clear t7; refine wpList_store_agg rfl rfl rfl rfl (hbg.fresh hFh) (by rw [vN_size, firstTo_length]; rfl) (vN_one _ _) (by rw [vN_size, firstTo_length]; exact a156.size) ?_; intro wi hbi hFi hsi)
    | (clear t8; refine wpList_store_agg rfl rfl rfl rfl (hbh.keep hFi (by omega)) (by rw [vN_size, cntTo_length]; rfl) (vN_one _ _) (by rw [vN_size, cntTo_length]; exact a157.size) ?_; intro wj hbj hFj hsj)
    | (clear t9; refine wpList_load_agg a147 rfl rfl rfl ((((hbe.fresh hFf).fresh hFg).fresh hFh).keep hFi (by have := hbe.lt; have := hFf.size; omega) |>.keep hFj (by have := hbe.lt; have := hFf.size; omega)) LENS_size ?_))
  have c1 := hFa.size
  have c2 := hFb.size
  have c3 := hFc.size
  have c4 := hFf.size
  have hFd' : Frm (New w) w wd := ((hFa.then_new Up.new hFb).then_new Up.new hFc).then_new Up.new hFd
  have hFe' : Frm (New w) w we := hFd'.trans (hFe.mono (fun k hk => by subst hk; show w.heap.size ≤ wc.heap.size; omega))
  have hFh' : Frm (New w) w wh := ((hFe'.then_new Up.new hFf).then_new Up.new hFg).then_new Up.new hFh
  have hFj' : Frm (New w) w wj := (hFh'.trans (hFi.mono (fun k hk => by subst hk; show w.heap.size ≤ wf.heap.size; omega))).trans (hFj.mono (fun k hk => by subst hk; show w.heap.size ≤ wg.heap.size; omega))
  have hba' : Blk wj w.heap.size 151 (vP .u32 .i64 (List.replicate 257 (0, 0))) :=
    ((((((((hba.fresh hFb).fresh hFc).fresh hFd).keep hFe (by omega)).fresh hFf).fresh hFg).fresh hFh).keep hFi (by omega)).keep hFj (by omega)
  have hbb' : Blk wj (w.heap.size + 1) 151 (vP .u32 .i64 (List.replicate 257 (0, 0))) := by
    rw [← hsa]
    exact (((((((hbb.fresh hFc).fresh hFd).keep hFe (by omega)).fresh hFf).fresh hFg).fresh hFh).keep hFi (by omega)).keep hFj (by omega)
  have hbn : Blk wj wf.heap.size 156 (vN .u32 (firstTo 30)) := hbi.keep hFj (by omega)
  have hlt : w.heap.size + 1 < wf.heap.size := by omega
  generalize wf.heap.size = g at *
  have H := Lib.hid (show Cod w g 0 wj from ⟨hFj', hlt, hba', hbb', hbn⟩)
  clear hba hbb hbd hbe hbg hbh hbi hbj hFa hFb hFc hFd hFe hFf hFg hFh hFi hFj hsa hsb hsd hse hsg hsh hsi hsj c1 c2 c3 c4 hFd' hFe' hFh' hFj' hba' hbb' hbn
  go_loopw [13] (fun i wr => ∃ k : Nat, k ≤ 257 ∧ i = .int .i64 k ∧ Hid (Cod w g k wr)) (fun i _ => 257 - (intOf i).toNat)
  case atStart => exact ⟨0, by omega, rfl, H⟩
  case round =>
    obtain ⟨k, hk, rfl, hR⟩ := hrel
    clear H
    by_cases hlt : k < 257
    · have hC := hR.out
      have HN := Lib.hid (hC.next hlt)
      have hx := lens_le k
      have hidx := fun W => idx147 k hlt W
      have hc1 : wr.cell? ⟨g, lens.getD k 0, none⟩ = some (.int .u32 (((nextTo k).getD (lens.getD k 0) 0 : Nat) : Int)) := by
        rw [hC.n.cell]; exact vN_get (by rw [nextTo_length]; omega)
      have hc2 := (vP_get (k1 := .u32) (k2 := .i64) (codesTo k) k (by rw [codesTo_length]; exact hlt)).1
      have hc3 := (vP_get (k1 := .u32) (k2 := .i64) (codesTo k) k (by rw [codesTo_length]; exact hlt)).2
      rw [← hC.o.cell] at hc2 hc3
      have hc4 := hC.o.frozen (k * 2)
      have hc5 := hC.o.frozen (k * 2 + 1)
      have hc6 := hC.n.frozen (lens.getD k 0)
      have hle := nextTo_le k (lens.getD k 0) hx
      have hne : ¬ g = w.heap.size + 1 := by have := hC.le; omega
      have hne2 : ¬ w.heap.size + 1 = g := by have := hC.le; omega
      clear hR hC
      generalize (nextTo k).getD (lens.getD k 0) 0 = y at *
      generalize lens.getD k 0 = x at *
      generalize (codesTo k).getD k (0, 0) = z at *
      go_wp2
      go_roundw
      case rel => exact ⟨k + 1, by omega, by go_num, HN⟩
      case measure => simp [intOf]; omega
    · obtain rfl : k = 257 := by omega
      obtain ⟨hF, _, hr, ho, _⟩ := hR.out
      clear hR
      go_wp2_with (first
        | (refine wpList_load_agg a151 rfl rfl rfl ho (by rw [vP_size, codesTo_length]) ?_)
        | (refine wpList_store_agg rfl rfl rfl rfl hr (by rw [vP_size, vP_size, codesTo_length]; rfl) (vP_one _) (by rw [vP_size, codesTo_length]; exact a151.size) ?_; intro wz hbz hFz hsz))
      refine bodyPost_ret (results_agg a151 rfl rfl hbz (by rw [vP_size, codesTo_length])) rfl ⟨rfl, hF.trans (hFz.mono (fun k hk => ?_))⟩
      subst hk; exact Nat.le_refl _
end Go.Proofs.Ytcebckkpablagaa.M
