/- Arguments: messages, requests, fields. No condition. -/
import Derived.SizedLaws
import Derived.ChangeSame
import Derived.Test.YtpojejdddgdjdaaGreatDoorGin
import Derived.Test.YtpojejdddgdjdaaGreatDoorSli
namespace Go.Proofs.YtpojejdddgdjdaaGreatDoor.M
open Go.ChangeShapes Go.WideShapes Go.ChangeAt Go.RowKit

instance : Inhabited Fld := ⟨([], [])⟩
def fcells (f : Fld) : List Value := [str f.1, str f.2]
theorem fcells_fvs (l : List Fld) : l.flatMap fcells = fvs l := rfl
def bcells (b : UInt8) : List Value := [bv b]
theorem bcells_bvs (l : Bytes) : l.flatMap bcells = bvs l := by
  unfold bcells bvs
  induction l with
  | nil => rfl
  | cons a r ih => rw [List.flatMap_cons, List.map_cons, ih]; rfl
def strOf : Value → Bytes
  | .string s => s.data.toList
  | _ => []
theorem str_strOf (s : ByteArray) : str (strOf (.string s)) = .string s := by
  show Value.string ⟨s.data.toList.toArray⟩ = _
  rw [Array.toArray_toList]
theorem list3 {α : Type} {l : List α} (h : l.length = 3) : ∃ a b c, l = [a, b, c] := by
  match l, h with
  | [a, b, c], _ => exact ⟨a, b, c, rfl⟩
theorem list7 {α : Type} {l : List α} (h : l.length = 7) : ∃ a b c d e f g, l = [a, b, c, d, e, f, g] := by
  match l, h with
  | [a, b, c, d, e, f, g], _ => exact ⟨a, b, c, d, e, f, g, rfl⟩
/-- a message, a request of an argument -/
structure MArg (W : World) (m : MV) : Prop where
  rd : MIn W m
  ok : MOk m
  cap1 : m.fs.length ≤ m.c1
  max1 : m.c1 ≤ maxLen
  nil1 : m.A1 = none → m.c1 = 0
  cap2 : m.b.length ≤ m.c2
  max2 : m.c2 ≤ maxLen
  cap3 : m.ts.length ≤ m.c3
  max3 : m.c3 ≤ maxLen
  nil3 : m.A3 = none → m.c3 = 0
structure RArg (W : World) (r : RV) : Prop where
  rd : RIn W r
  o1 : ∀ f ∈ r.fs, FldOk f
  o3 : ∀ f ∈ r.ts, FldOk f
  s1 : r.me.length ≤ 1125899906842624
  s2 : r.sc.length ≤ 1125899906842624
  s3 : r.au.length ≤ 1125899906842624
  s4 : r.pa.length ≤ 1125899906842624
  m1 : r.fs.length ≤ maxLen
  m2 : r.b.length ≤ maxLen
  m3 : r.ts.length ≤ maxLen
section
variable {W : World} {H : Type} {en : TypeId × Value → H} {base : Nat} {spare : Nat → Bool} {held : Bool}
set_option maxRecDepth 100000 in
theorem fld_trod (fuel : Nat) (cs : List Value) (y : DataW H × List MemPlace) (h : DataW.trod en Tryz.prog W base spare held fuel 38 cs = some y) (hw : ∀ q ∈ y.1.weights Tryz.prog 38, q ≤ reachBytes) :
    ∃ f : Fld, cs = fcells f ∧ FldOk f := by
  obtain ⟨xs, n, _, hy, hl, hlen, hf⟩ := DataW.trod_struct Tryz.underlying38 h
  have h5 : Tryz.prog.cellsOf 38 = 2 := by kernel_rfl
  have c3 : Tryz.prog.cellsOf 9 = 1 := by kernel_rfl
  rw [h5] at hl
  obtain ⟨a0, a1, rfl⟩ := list2 hl
  obtain ⟨y0, y1, rfl⟩ := list2 hlen
  have h0 : DataW.trod en Tryz.prog W base spare held n 9 (List.take (Tryz.prog.cellsOf 9) (List.drop 0 [a0, a1])) = some y0 := hf 0 _ rfl
  rw [c3] at h0
  have h1 : DataW.trod en Tryz.prog W base spare held n 9 (List.take (Tryz.prog.cellsOf 9) (List.drop 1 [a0, a1])) = some y1 := hf 1 _ rfl
  rw [c3] at h1
  obtain ⟨s, e0, d0, _⟩ := DataW.trod_string Tryz.underlying9 h0
  obtain ⟨t, e1, d1, _⟩ := DataW.trod_string Tryz.underlying9 h1
  simp only [List.drop_zero, List.drop_succ_cons, List.take_succ_cons, List.take_zero, List.cons.injEq, and_true] at e0 e1
  subst e0 e1
  rw [hy] at hw
  simp only [List.map_cons, List.map_nil, d0, d1, DataW.weights, Tryz.underlying38] at hw
  have hrb : reachBytes ≤ 1125899906842624 := by decide
  refine ⟨(strOf (.string s), strOf (.string t)), ?_, ?_, ?_⟩
  · simp only [fcells, str_strOf]
  · exact Nat.le_trans (hw _ (by simp [DataW.weightsEach, DataW.weights, strOf])) hrb
  · exact Nat.le_trans (hw _ (by simp [DataW.weightsEach, DataW.weights, strOf])) hrb
theorem u8_trod (fuel : Nat) (cs : List Value) (y : DataW H × List MemPlace) (h : DataW.trod en Tryz.prog W base spare held fuel 5 cs = some y) (_ : ∀ q ∈ y.1.weights Tryz.prog 5, q ≤ reachBytes) :
    ∃ b : UInt8, cs = bcells b ∧ True := by
  obtain ⟨z, e0, _, w0⟩ := DataW.trod_int Tryz.underlying5 h
  have w0 : 0 ≤ z ∧ z ≤ 255 := by simp only [Lit.wf, decide_eq_true_eq, Bool.and_eq_true] at w0; exact w0
  refine ⟨UInt8.ofNat z.toNat, ?_, trivial⟩
  rw [e0]
  unfold bcells bv
  have : ((UInt8.ofNat z.toNat).toNat : Int) = z := by
    rw [UInt8.toNat_ofNat']
    omega
  rw [this]
theorem flds_trod {fuel : Nat} {v : Value} {x : DataW H × List MemPlace} (h : DataW.trod en Tryz.prog W base spare held fuel 27 [v] = some x) (hw : ∀ q ∈ x.1.weights Tryz.prog 27, q ≤ reachBytes) :
    ∃ (A : Option Addr) (n c : Nat) (l : List Fld), v = .slice A n c ∧ AIn W fcells FldOk A n c l :=
  rows_trod Tryz.underlying27 (k := 2) (by kernel_rfl) (by omega) fcells (fun _ => rfl) FldOk fld_trod h hw
theorem bytes_trod {fuel : Nat} {v : Value} {x : DataW H × List MemPlace} (h : DataW.trod en Tryz.prog W base spare held fuel 28 [v] = some x) (hw : ∀ q ∈ x.1.weights Tryz.prog 28, q ≤ reachBytes) :
    ∃ (A : Option Addr) (n c : Nat) (l : Bytes), v = .slice A n c ∧ AIn W bcells (fun _ => True) A n c l :=
  rows_trod Tryz.underlying28 (k := 1) (by kernel_rfl) (by omega) bcells (fun _ => rfl) (fun _ => True) u8_trod h hw
set_option maxRecDepth 100000 in
theorem msg_trod (fuel : Nat) (cs : List Value) (y : DataW H × List MemPlace) (h : DataW.trod en Tryz.prog W base spare held fuel 30 cs = some y) (hw : ∀ q ∈ y.1.weights Tryz.prog 30, q ≤ reachBytes) :
    ∃ m : MV, cs = m.cells.toList ∧ MArg W m := by
  obtain ⟨xs, n, _, hy, hl, hlen, hf⟩ := DataW.trod_struct Tryz.underlying30 h
  have h5 : Tryz.prog.cellsOf 30 = 3 := by kernel_rfl
  have c1 : Tryz.prog.cellsOf 27 = 1 := by kernel_rfl
  have c2 : Tryz.prog.cellsOf 28 = 1 := by kernel_rfl
  rw [h5] at hl
  obtain ⟨a0, a1, a2, rfl⟩ := list3 hl
  obtain ⟨y0, y1, y2, rfl⟩ := list3 hlen
  have h0 : DataW.trod en Tryz.prog W base spare held n 27 (List.take (Tryz.prog.cellsOf 27) (List.drop 0 [a0, a1, a2])) = some y0 := hf 0 _ rfl
  have h1 : DataW.trod en Tryz.prog W base spare held n 28 (List.take (Tryz.prog.cellsOf 28) (List.drop 1 [a0, a1, a2])) = some y1 := hf 1 _ rfl
  have h2 : DataW.trod en Tryz.prog W base spare held n 27 (List.take (Tryz.prog.cellsOf 27) (List.drop 2 [a0, a1, a2])) = some y2 := hf 2 _ rfl
  rw [c1] at h0 h2
  rw [c2] at h1
  simp only [List.drop_zero, List.drop_succ_cons, List.take_succ_cons, List.take_zero] at h0 h1 h2
  rw [hy] at hw
  simp only [List.map_cons, List.map_nil] at hw
  have hw0 : ∀ q ∈ y0.1.weights Tryz.prog 27, q ≤ reachBytes := fun q hq => hw q (by simp only [DataW.weights, Tryz.underlying30]; simp [DataW.weightsEach, hq])
  have hw1 : ∀ q ∈ y1.1.weights Tryz.prog 28, q ≤ reachBytes := fun q hq => hw q (by simp only [DataW.weights, Tryz.underlying30]; simp [DataW.weightsEach, hq])
  have hw2 : ∀ q ∈ y2.1.weights Tryz.prog 27, q ≤ reachBytes := fun q hq => hw q (by simp only [DataW.weights, Tryz.underlying30]; simp [DataW.weightsEach, hq])
  obtain ⟨A, n1, c, l, rfl, i1⟩ := flds_trod h0 hw0
  obtain ⟨B, n2, d, b, rfl, i2⟩ := bytes_trod h1 hw1
  obtain ⟨C, n3, e, t, rfl, i3⟩ := flds_trod h2 hw2
  have e1 := i1.len
  have e2 := i2.len
  have e3 := i3.len
  subst e1 e2 e3
  refine ⟨⟨A, c, l, B, d, b, C, e, t⟩, rfl, ⟨i1.rd, ?_, i3.rd⟩, ⟨i1.ok, i3.ok⟩, i1.cap, i1.max, i1.nil_, i2.cap, i2.max, i3.cap, i3.max, i3.nil_⟩
  have := i2.rd
  rw [bcells_bvs] at this
  exact this
set_option maxRecDepth 100000 in
theorem req_trod (fuel : Nat) (cs : List Value) (y : DataW H × List MemPlace) (h : DataW.trod en Tryz.prog W base spare held fuel 32 cs = some y) (hw : ∀ q ∈ y.1.weights Tryz.prog 32, q ≤ reachBytes) :
    ∃ r : RV, cs = r.cells.toList ∧ RArg W r := by
  obtain ⟨xs, n, _, hy, hl, hlen, hf⟩ := DataW.trod_struct Tryz.underlying32 h
  have h5 : Tryz.prog.cellsOf 32 = 7 := by kernel_rfl
  have c1 : Tryz.prog.cellsOf 27 = 1 := by kernel_rfl
  have c2 : Tryz.prog.cellsOf 28 = 1 := by kernel_rfl
  have c3 : Tryz.prog.cellsOf 9 = 1 := by kernel_rfl
  rw [h5] at hl
  obtain ⟨a0, a1, a2, a3, a4, a5, a6, rfl⟩ := list7 hl
  obtain ⟨y0, y1, y2, y3, y4, y5, y6, rfl⟩ := list7 hlen
  have k0 : DataW.trod en Tryz.prog W base spare held n 9 (List.take (Tryz.prog.cellsOf 9) (List.drop 0 [a0, a1, a2, a3, a4, a5, a6])) = some y0 := hf 0 _ rfl
  have k1 : DataW.trod en Tryz.prog W base spare held n 9 (List.take (Tryz.prog.cellsOf 9) (List.drop 1 [a0, a1, a2, a3, a4, a5, a6])) = some y1 := hf 1 _ rfl
  have k2 : DataW.trod en Tryz.prog W base spare held n 9 (List.take (Tryz.prog.cellsOf 9) (List.drop 2 [a0, a1, a2, a3, a4, a5, a6])) = some y2 := hf 2 _ rfl
  have k3 : DataW.trod en Tryz.prog W base spare held n 9 (List.take (Tryz.prog.cellsOf 9) (List.drop 3 [a0, a1, a2, a3, a4, a5, a6])) = some y3 := hf 3 _ rfl
  have h0 : DataW.trod en Tryz.prog W base spare held n 27 (List.take (Tryz.prog.cellsOf 27) (List.drop 4 [a0, a1, a2, a3, a4, a5, a6])) = some y4 := hf 4 _ rfl
  have h1 : DataW.trod en Tryz.prog W base spare held n 28 (List.take (Tryz.prog.cellsOf 28) (List.drop 5 [a0, a1, a2, a3, a4, a5, a6])) = some y5 := hf 5 _ rfl
  have h2 : DataW.trod en Tryz.prog W base spare held n 27 (List.take (Tryz.prog.cellsOf 27) (List.drop 6 [a0, a1, a2, a3, a4, a5, a6])) = some y6 := hf 6 _ rfl
  rw [c3] at k0 k1 k2 k3
  rw [c1] at h0 h2
  rw [c2] at h1
  simp only [List.drop_zero, List.drop_succ_cons, List.take_succ_cons, List.take_zero] at h0 h1 h2 k0 k1 k2 k3
  obtain ⟨s0, e0, d0, _⟩ := DataW.trod_string Tryz.underlying9 k0
  obtain ⟨s1, e1, d1, _⟩ := DataW.trod_string Tryz.underlying9 k1
  obtain ⟨s2, e2, d2, _⟩ := DataW.trod_string Tryz.underlying9 k2
  obtain ⟨s3, e3, d3, _⟩ := DataW.trod_string Tryz.underlying9 k3
  simp only [List.cons.injEq, and_true] at e0 e1 e2 e3
  subst e0 e1 e2 e3
  rw [hy] at hw
  simp only [List.map_cons, List.map_nil, d0, d1, d2, d3] at hw
  have hw0 : ∀ q ∈ y4.1.weights Tryz.prog 27, q ≤ reachBytes := fun q hq => hw q (by simp only [DataW.weights, Tryz.underlying32]; simp [DataW.weightsEach, hq])
  have hw1 : ∀ q ∈ y5.1.weights Tryz.prog 28, q ≤ reachBytes := fun q hq => hw q (by simp only [DataW.weights, Tryz.underlying32]; simp [DataW.weightsEach, hq])
  have hw2 : ∀ q ∈ y6.1.weights Tryz.prog 27, q ≤ reachBytes := fun q hq => hw q (by simp only [DataW.weights, Tryz.underlying32]; simp [DataW.weightsEach, hq])
  obtain ⟨A, n1, c, l, rfl, i1⟩ := flds_trod h0 hw0
  obtain ⟨B, n2, d, b, rfl, i2⟩ := bytes_trod h1 hw1
  obtain ⟨C, n3, e, t, rfl, i3⟩ := flds_trod h2 hw2
  have e1 := i1.len
  have e2 := i2.len
  have e3 := i3.len
  subst e1 e2 e3
  simp only [DataW.weights, Tryz.underlying32] at hw
  have hrb : reachBytes ≤ 1125899906842624 := by decide
  refine ⟨⟨strOf (.string s0), strOf (.string s1), strOf (.string s2), strOf (.string s3), A, c, l, B, d, b, C, e, t⟩, ?_, ⟨i1.rd, ?_, i3.rd⟩, i1.ok, i3.ok, ?_, ?_, ?_, ?_, Nat.le_trans i1.cap i1.max, Nat.le_trans i2.cap i2.max, Nat.le_trans i3.cap i3.max⟩
  · have q0 := str_strOf s0
    have q1 := str_strOf s1
    have q2 := str_strOf s2
    have q3 := str_strOf s3
    unfold str at q0 q1 q2 q3
    simp only [RV.cells, q0, q1, q2, q3]
  · have := i2.rd
    rw [bcells_bvs] at this
    exact this
  · exact Nat.le_trans (hw _ (by simp [DataW.weightsEach, DataW.weights, strOf])) hrb
  · exact Nat.le_trans (hw _ (by simp [DataW.weightsEach, DataW.weights, strOf])) hrb
  · exact Nat.le_trans (hw _ (by simp [DataW.weightsEach, DataW.weights, strOf])) hrb
  · exact Nat.le_trans (hw _ (by simp [DataW.weightsEach, DataW.weights, strOf])) hrb
set_option maxRecDepth 100000 in
theorem is_msg {base2 : Nat} {r : Reach} {v : Value} {d : DataW H} {p : List MemPlace} (hv : Value.okWide Tryz.prog W r base2 30 v) (ht : DataW.Trod en Tryz.prog W base spare held 30 v d p) (hw : ∀ n ∈ d.weights Tryz.prog 30, n ≤ reachBytes) :
    ∃ m : MV, v = .agg m.cells ∧ MArg W m := by
  obtain ⟨cs, rfl, hcs⟩ := okWide_struct Tryz.underlying30 hv
  obtain ⟨fuel, ht⟩ := ht
  obtain ⟨m, e, hm⟩ := msg_trod fuel cs.toList _ ht hw
  exact ⟨m, by rw [Array.ext' e], hm⟩
set_option maxRecDepth 100000 in
theorem is_req {base2 : Nat} {r : Reach} {v : Value} {d : DataW H} {p : List MemPlace} (hv : Value.okWide Tryz.prog W r base2 32 v) (ht : DataW.Trod en Tryz.prog W base spare held 32 v d p) (hw : ∀ n ∈ d.weights Tryz.prog 32, n ≤ reachBytes) :
    ∃ m : RV, v = .agg m.cells ∧ RArg W m := by
  obtain ⟨cs, rfl, hcs⟩ := okWide_struct Tryz.underlying32 hv
  obtain ⟨fuel, ht⟩ := ht
  obtain ⟨m, e, hm⟩ := req_trod fuel cs.toList _ ht hw
  exact ⟨m, by rw [Array.ext' e], hm⟩
set_option maxRecDepth 100000 in
theorem is_fld {base2 : Nat} {r : Reach} {v : Value} {d : DataW H} {p : List MemPlace} (hv : Value.okWide Tryz.prog W r base2 38 v) (ht : DataW.Trod en Tryz.prog W base spare held 38 v d p) (hw : ∀ n ∈ d.weights Tryz.prog 38, n ≤ reachBytes) :
    ∃ f : Fld, v = .agg #[str f.1, str f.2] ∧ FldOk f := by
  obtain ⟨cs, rfl, hcs⟩ := okWide_struct Tryz.underlying38 hv
  obtain ⟨fuel, ht⟩ := ht
  obtain ⟨f, e, hf⟩ := fld_trod fuel cs.toList _ ht hw
  have h : cs = #[str f.1, str f.2] := Array.ext' e
  exact ⟨f, by rw [h], hf⟩
end
end Go.Proofs.YtpojejdddgdjdaaGreatDoor.M
