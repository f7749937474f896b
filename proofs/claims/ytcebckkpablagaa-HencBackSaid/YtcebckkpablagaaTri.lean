/- Arguments of HencBack; two encoders and a decoder side by side. No condition. -/
import Derived.Test.YtcebckkpablagaaPin
import Derived.Test.YtcebckkpablagaaRenc
import Derived.Test.YtcebckkpablagaaRdec
import Derived.Test.YtcebckkpablagaaBack
import Derived.Test.YtcebckkpablagaaEres
import Derived.Test.YtcebckkpablagaaEnce
namespace Go.Proofs.Ytcebckkpablagaa.M
open Go.ChangeShapes Go.WideShapes Go.ChangeAt Go.RowKit

instance : Inhabited Fld := ⟨([], [])⟩
def fcells (f : Fld) : List Value := [str f.1, str f.2]
theorem fcells_fvs (l : List Fld) : l.flatMap fcells = fvs l := rfl
def FldOk (f : Fld) : Prop := f.1.length ≤ 1125899906842624 ∧ f.2.length ≤ 1125899906842624
def icells (z : Int) : List Value := [.int .i64 z]
def IntOk (z : Int) : Prop := -9223372036854775808 ≤ z ∧ z ≤ 9223372036854775807
section
variable {W : World} {H : Type} {en : TypeId × Value → H} {base : Nat} {spare : Nat → Bool} {held : Bool}
set_option maxRecDepth 100000 in
theorem fld_trod (fuel : Nat) (cs : List Value) (y : DataW H × List MemPlace) (h : DataW.trod en Try.prog W base spare held fuel 30 cs = some y) (hw : ∀ q ∈ y.1.weights Try.prog 30, q ≤ reachBytes) :
    ∃ f : Fld, cs = fcells f ∧ FldOk f := by
  obtain ⟨xs, n, _, hy, hl, hlen, hf⟩ := DataW.trod_struct Try.underlying30 h
  have h5 : Try.prog.cellsOf 30 = 2 := by kernel_rfl
  have c3 : Try.prog.cellsOf 9 = 1 := by kernel_rfl
  rw [h5] at hl
  obtain ⟨a0, a1, rfl⟩ := list2 hl
  obtain ⟨y0, y1, rfl⟩ := list2 hlen
  have h0 : DataW.trod en Try.prog W base spare held n 9 (List.take (Try.prog.cellsOf 9) (List.drop 0 [a0, a1])) = some y0 := hf 0 _ rfl
  rw [c3] at h0
  have h1 : DataW.trod en Try.prog W base spare held n 9 (List.take (Try.prog.cellsOf 9) (List.drop 1 [a0, a1])) = some y1 := hf 1 _ rfl
  rw [c3] at h1
  obtain ⟨s, e0, d0, _⟩ := DataW.trod_string Try.underlying9 h0
  obtain ⟨t, e1, d1, _⟩ := DataW.trod_string Try.underlying9 h1
  simp only [List.drop_zero, List.drop_succ_cons, List.take_succ_cons, List.take_zero, List.cons.injEq, and_true] at e0 e1
  subst e0 e1
  rw [hy] at hw
  simp only [List.map_cons, List.map_nil, d0, d1, DataW.weights, Try.underlying30] at hw
  have hrb : reachBytes ≤ 1125899906842624 := by decide
  refine ⟨(strOf (.string s), strOf (.string t)), ?_, ?_, ?_⟩
  · simp only [fcells, str_strOf]
  · exact Nat.le_trans (hw _ (by simp [DataW.weightsEach, DataW.weights, strOf])) hrb
  · exact Nat.le_trans (hw _ (by simp [DataW.weightsEach, DataW.weights, strOf])) hrb
theorem int_trod (fuel : Nat) (cs : List Value) (y : DataW H × List MemPlace) (h : DataW.trod en Try.prog W base spare held fuel 3 cs = some y) (_ : ∀ q ∈ y.1.weights Try.prog 3, q ≤ reachBytes) :
    ∃ z : Int, cs = icells z ∧ IntOk z := by
  obtain ⟨z, e0, _, w0⟩ := DataW.trod_int Try.underlying3 h
  have w0 : -9223372036854775808 ≤ z ∧ z ≤ 9223372036854775807 := by simp only [Lit.wf, decide_eq_true_eq, Bool.and_eq_true] at w0; exact w0
  exact ⟨z, e0, w0⟩
theorem ints_trod {fuel : Nat} {v : Value} {x : DataW H × List MemPlace} (h : DataW.trod en Try.prog W base spare held fuel 44 [v] = some x) (hw : ∀ q ∈ x.1.weights Try.prog 44, q ≤ reachBytes) :
    ∃ (A : Option Addr) (n c : Nat) (l : List Int), v = .slice A n c ∧ AIn W icells IntOk A n c l :=
  rows_trod Try.underlying44 (k := 1) (by kernel_rfl) (by omega) icells (fun _ => rfl) IntOk int_trod h hw
theorem lists_trod {fuel : Nat} {v : Value} {x : DataW H × List MemPlace} (h : DataW.trod en Try.prog W base spare held fuel 43 [v] = some x) (hw : ∀ q ∈ x.1.weights Try.prog 43, q ≤ reachBytes) :
    ∃ (A : Option Addr) (n c : Nat) (l : List (Sl Fld)), v = .slice A n c ∧ AIn W Sl.cells (fun s => AIn W fcells FldOk s.A s.l.length s.c s.l) A n c l :=
  slices_trod Try.underlying43 Try.underlying27 (k := 2) (by kernel_rfl) (by omega) fcells (fun _ => rfl) FldOk fld_trod (by kernel_rfl) h hw
end
theorem int_get {w : World} {A : Option Addr} {l : List Int} (h : Rd w A (l.flatMap icells)) (k : Nat) (hk : k < l.length) : ∃ g off, A = some ⟨g, off, none⟩ ∧ w.cell? ⟨g, off + k, none⟩ = some (.int .i64 l[k]) := by
  have h1 := flatL_get icells 1 (fun _ => rfl) l k 0 hk (by omega)
  rw [Nat.mul_one, Nat.add_zero] at h1
  exact h k _ h1
theorem sl_get2 {α : Type} {w : World} {A : Option Addr} {l : List (Sl α)} (h : Rd w A (l.flatMap Sl.cells)) (k : Nat) (hk : k < l.length) : ∃ g off, A = some ⟨g, off, none⟩ ∧ w.cell? ⟨g, off + k, none⟩ = some (.slice l[k].A l[k].l.length l[k].c) := by
  have h1 := flatL_get Sl.cells 1 (fun _ => rfl) l k 0 hk (by omega)
  rw [Nat.mul_one, Nat.add_zero] at h1
  exact h k _ h1
/-- the blocks of three things that the call made -/
structure Tri (W w : World) (O1 O2 O3 : Nat → Prop) : Prop where
  d12 : ∀ k, O1 k → ¬ O2 k
  d13 : ∀ k, O1 k → ¬ O3 k
  d23 : ∀ k, O2 k → ¬ O3 k
  l1 : ∀ k, O1 k → W.heap.size ≤ k ∧ k < w.heap.size
  l2 : ∀ k, O2 k → W.heap.size ≤ k ∧ k < w.heap.size
  l3 : ∀ k, O3 k → W.heap.size ≤ k ∧ k < w.heap.size
  frm : Frm (New W) W w
def Ob (S : Nat → Prop) (p k : Nat) : Prop := k = p ∨ S k
section
variable {W w w' : World} {O1 O2 O3 O : Nat → Prop}
theorem Tri.rot (h : Tri W w O1 O2 O3) : Tri W w O2 O3 O1 :=
  ⟨h.d23, fun k a b => h.d12 k b a, fun k a b => h.d13 k b a, h.l2, h.l3, h.l1, h.frm⟩
theorem Tri.step (h : Tri W w O1 O2 O3) (f : Frm (fun k => O1 k ∨ w.heap.size ≤ k) w w') (hs : ∀ k, O k → O1 k ∨ w.heap.size ≤ k) (hl : ∀ k, O k → k < w'.heap.size) : Tri W w' O O2 O3 := by
  have hz := f.size
  have hW := h.frm.size
  refine ⟨fun k a b => ?_, fun k a b => ?_, h.d23, fun k a => ⟨?_, hl k a⟩, fun k a => ⟨(h.l2 k a).1, Nat.lt_of_lt_of_le (h.l2 k a).2 hz⟩, fun k a => ⟨(h.l3 k a).1, Nat.lt_of_lt_of_le (h.l3 k a).2 hz⟩, h.frm.trans (f.mono (fun k hk => ?_))⟩
  · rcases hs k a with c | c
    · exact h.d12 k c b
    · have := (h.l2 k b).2; omega
  · rcases hs k a with c | c
    · exact h.d13 k c b
    · have := (h.l3 k b).2; omega
  · rcases hs k a with c | c
    · exact (h.l1 k c).1
    · omega
  · rcases hk with c | c
    · exact (h.l1 k c).1
    · exact Nat.le_trans hW c
theorem Tri.fresh (h : Tri W w O1 O2 O3) (f : Frm (New w) w w') : Tri W w' O1 O2 O3 :=
  h.step (f.mono (fun _ hk => .inr hk)) (fun _ hk => .inl hk) (fun k hk => Nat.lt_of_lt_of_le (h.l1 k hk).2 f.size)
/-- what the first writes is not the second's, nor the third's -/
theorem Tri.no2 (h : Tri W w O1 O2 O3) (k : Nat) (hk : O2 k) : ¬ (O1 k ∨ w.heap.size ≤ k) := fun c => by
  rcases c with c | c
  · exact h.d12 k c hk
  · have := (h.l2 k hk).2; omega
theorem Tri.no3 (h : Tri W w O1 O2 O3) (k : Nat) (hk : O3 k) : ¬ (O1 k ∨ w.heap.size ≤ k) := fun c => by
  rcases c with c | c
  · exact h.d13 k c hk
  · have := (h.l3 k hk).2; omega
end
theorem RDeAt.keep' {S M : Nat → Prop} {w w' : World} {p g : Nat} {D : De} (h : RDeAt S w p g D) (f : Frm M w w') (hM : ∀ k, Ob S p k → ¬ M k) : RDeAt S w' p g D := h.keep f (fun k hk => hM k (.inr hk)) (hM p (.inl rfl))
theorem REnAt.keep' {S M : Nat → Prop} {w w' : World} {p g : Nat} {E : En} {ls : Int} (h : REnAt S w p g E ls) (f : Frm M w w') (hM : ∀ k, Ob S p k → ¬ M k) : REnAt S w' p g E ls := h.keep f (fun k hk => hM k (.inr hk)) (hM p (.inl rfl))
theorem EnAt.keep' {S M : Nat → Prop} {w w' : World} {p g ls : Nat} {E : En} {ch : Bool} (h : EnAt S w p g E ch ls) (f : Frm M w w') (hM : ∀ k, Ob S p k → ¬ M k) : EnAt S w' p g E ch ls := h.keep f (fun k hk => hM k (.inr hk)) (hM p (.inl rfl))
theorem ob_own {S S' : Nat → Prop} {w : World} {p : Nat} (h : ∀ k, S' k → Own S w k) (k : Nat) (hk : Ob S' p k) : Ob S p k ∨ w.heap.size ≤ k := by
  rcases hk with c | c
  · exact .inl (.inl c)
  · rcases h k c with c | c
    · exact .inl (.inr c)
    · exact .inr c
theorem frm_ob {S : Nat → Prop} {w w' : World} {p : Nat} (f : Frm (fun k => k = p ∨ Own S w k) w w') : Frm (fun k => Ob S p k ∨ w.heap.size ≤ k) w w' := f.mono (fun k hk => by
  rcases hk with c | c | c
  · exact .inl (.inl c)
  · exact .inl (.inr c)
  · exact .inr c)
/-- both encoders and the decoder -/
structure HBk (W w : World) (S1 : Nat → Prop) (p1 g1 : Nat) (E1 : En) (ch : Bool) (ls1 : Nat) (S2 : Nat → Prop) (p2 g2 : Nat) (E2 : En) (ls2 : Int) (S3 : Nat → Prop) (p3 g3 : Nat) (D : De) : Prop where
  en : EnAt S1 w p1 g1 E1 ch ls1
  re : REnAt S2 w p2 g2 E2 ls2
  de : RDeAt S3 w p3 g3 D
  tri : Tri W w (Ob S1 p1) (Ob S2 p2) (Ob S3 p3)
section
variable {W w w' : World} {S1 S2 S3 S : Nat → Prop} {p1 g1 p2 g2 p3 g3 ls1 : Nat} {ls2 : Int} {E1 E2 E : En} {D D' : De} {ch : Bool}
theorem HBk.fresh (h : HBk W w S1 p1 g1 E1 ch ls1 S2 p2 g2 E2 ls2 S3 p3 g3 D) (f : Frm (New w) w w') : HBk W w' S1 p1 g1 E1 ch ls1 S2 p2 g2 E2 ls2 S3 p3 g3 D :=
  ⟨h.en.fresh f, h.re.fresh f, h.de.fresh f, h.tri.fresh f⟩
theorem HBk.enc {ch' : Bool} {ls' : Nat} (h : HBk W w S1 p1 g1 E1 ch ls1 S2 p2 g2 E2 ls2 S3 p3 g3 D) (he : EnAt S w' p1 g1 E ch' ls') (f : Frm (fun k => k = p1 ∨ Own S1 w k) w w') (hS : ∀ k, S k → Own S1 w k) : HBk W w' S p1 g1 E ch' ls' S2 p2 g2 E2 ls2 S3 p3 g3 D :=
  ⟨he, h.re.keep' (frm_ob f) h.tri.no2, h.de.keep' (frm_ob f) h.tri.no3, h.tri.step (frm_ob f) (ob_own hS) (fun k hk => by
    rcases hk with c | c
    · rw [c]; exact he.blk.lt
    · exact he.tab.low k c)⟩
theorem HBk.ren {ls' : Int} (h : HBk W w S1 p1 g1 E1 ch ls1 S2 p2 g2 E2 ls2 S3 p3 g3 D) (he : REnAt S w' p2 g2 E ls') (f : Frm (fun k => k = p2 ∨ Own S2 w k) w w') (hS : ∀ k, S k → Own S2 w k) : HBk W w' S1 p1 g1 E1 ch ls1 S p2 g2 E ls' S3 p3 g3 D :=
  ⟨h.en.keep' (frm_ob f) h.tri.rot.no3, he, h.de.keep' (frm_ob f) h.tri.rot.no2, (h.tri.rot.step (frm_ob f) (ob_own hS) (fun k hk => by
    rcases hk with c | c
    · rw [c]; exact he.blk.lt
    · exact he.tab.low k c)).rot.rot⟩
theorem HBk.dec (h : HBk W w S1 p1 g1 E1 ch ls1 S2 p2 g2 E2 ls2 S3 p3 g3 D) (hd : RDeAt S w' p3 g3 D') (f : Frm (fun k => k = p3 ∨ Own S3 w k) w w') (hS : ∀ k, S k → Own S3 w k) : HBk W w' S1 p1 g1 E1 ch ls1 S2 p2 g2 E2 ls2 S p3 g3 D' :=
  ⟨h.en.keep' (frm_ob f) h.tri.rot.rot.no2, h.re.keep' (frm_ob f) h.tri.rot.rot.no3, hd, (h.tri.rot.rot.step (frm_ob f) (ob_own hS) (fun k hk => by
    rcases hk with c | c
    · rw [c]; exact hd.blk.lt
    · exact hd.tab.low k c)).rot⟩
theorem HBk.start {w0 w1 w2 w3 : World} (h0 : Frm (New W) W w0) (h1 : EnAt S1 w1 p1 g1 E1 ch ls1) (f1 : Frm (New w0) w0 w1) (s1 : ∀ k, S1 k → w0.heap.size ≤ k) (l1 : w0.heap.size ≤ p1)
    (h2 : REnAt S2 w2 p2 g2 E2 ls2) (f2 : Frm (New w1) w1 w2) (s2 : ∀ k, S2 k → w1.heap.size ≤ k) (l2 : w1.heap.size ≤ p2)
    (h3 : RDeAt S3 w3 p3 g3 D) (f3 : Frm (New w2) w2 w3) (s3 : ∀ k, S3 k → w2.heap.size ≤ k) (l3 : w2.heap.size ≤ p3) : HBk W w3 S1 p1 g1 E1 ch ls1 S2 p2 g2 E2 ls2 S3 p3 g3 D := by
  have z0 := h0.size
  have z1 := f1.size
  have z2 := f2.size
  have z3 := f3.size
  have o1 : ∀ k, Ob S1 p1 k → w0.heap.size ≤ k ∧ k < w1.heap.size := fun k hk => by
    rcases hk with c | c
    · rw [c]; exact ⟨l1, h1.blk.lt⟩
    · exact ⟨s1 k c, h1.tab.low k c⟩
  have o2 : ∀ k, Ob S2 p2 k → w1.heap.size ≤ k ∧ k < w2.heap.size := fun k hk => by
    rcases hk with c | c
    · rw [c]; exact ⟨l2, h2.blk.lt⟩
    · exact ⟨s2 k c, h2.tab.low k c⟩
  have o3 : ∀ k, Ob S3 p3 k → w2.heap.size ≤ k ∧ k < w3.heap.size := fun k hk => by
    rcases hk with c | c
    · rw [c]; exact ⟨l3, h3.blk.lt⟩
    · exact ⟨s3 k c, h3.tab.low k c⟩
  refine ⟨(h1.fresh f2).fresh f3, h2.fresh f3, h3, ⟨fun k a b => ?_, fun k a b => ?_, fun k a b => ?_, fun k a => ?_, fun k a => ?_, fun k a => ?_, ((h0.then_new Up.new f1).then_new Up.new f2).then_new Up.new f3⟩⟩
  · have := o1 k a; have := o2 k b; omega
  · have := o1 k a; have := o3 k b; omega
  · have := o2 k a; have := o3 k b; omega
  · have := o1 k a; omega
  · have := o2 k a; omega
  · have := o3 k a; omega
end
theorem RDeAt.max4 {S : Nat → Prop} {w : World} {p g : Nat} {D : De} (h : RDeAt S w p g D) : RDeAt S (w.setCell ⟨p, 1, none⟩ (.int .i64 4096)) p g { D with max := 4096 } ∧ Frm (fun k => k = p ∨ Own S w k) w (w.setCell ⟨p, 1, none⟩ (.int .i64 4096)) := by
  have hF : Frm (fun k => k = p) w (w.setCell ⟨p, 1, none⟩ (.int .i64 4096)) := (Frm.refl (fun k => k = p) w).setCell (p := ⟨p, 1, none⟩) rfl _
  have hb := h.blk.set_ 1 (.int .i64 4096)
  exact ⟨{ h with blk := by simpa using hb, tab := h.tab.keep hF (fun k hk e => h.out (by rw [← e]; exact hk)), max := Nat.le_refl _ }, hF.mono (fun k e => .inl e)⟩
end Go.Proofs.Ytcebckkpablagaa.M
