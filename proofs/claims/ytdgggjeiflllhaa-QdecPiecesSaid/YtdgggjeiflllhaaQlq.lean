/- Arguments that are scripts of QPACK's. No condition. -/
import Derived.Lib.Hide
import Derived.Test.YtdgggjeiflllhaaGin
import Derived.Test.YtdgggjeiflllhaaKey
namespace Go.Proofs.Ytdgggjeiflllhaa.M
open Go.ChangeShapes Go.WideShapes Go.ChangeAt Go.RowKit

structure BOk (W : World) (A : Option Addr) (c : Nat) (b : Bytes) : Prop where
  rd : Rd W A (bvs b)
  cap : b.length ≤ c
  max : c ≤ maxLen
  nil_ : A = none → c = 0
theorem flat_bv : ∀ b : Bytes, b.flatMap (fun x => [bv x]) = bvs b
  | [] => rfl
  | x :: r => by rw [List.flatMap_cons, flat_bv r]; rfl
/-- an act -/
structure Aq where
  k : Nat
  s : Nat
  i : Nat
  j : Nat
  m : Nat
  n : ByteArray
  v : ByteArray
  A : Option Addr
  c : Nat
  b : Bytes
def Aq.cells (x : Aq) : List Value := [.int .u8 x.k, .int .u8 x.s, .int .u64 x.i, .int .u64 x.j, .int .u64 x.m, .string x.n, .string x.v, .slice x.A x.b.length x.c]
structure AqOk (W : World) (x : Aq) : Prop where
  k : x.k ≤ 255
  s : x.s ≤ 255
  i : x.i ≤ 18446744073709551615
  j : x.j ≤ 18446744073709551615
  m : x.m ≤ 18446744073709551615
  n : x.n.size ≤ 1125899906842624
  v : x.v.size ≤ 1125899906842624
  b : BOk W x.A x.c x.b
instance : Inhabited Aq := ⟨⟨0, 0, 0, 0, 0, ByteArray.empty, ByteArray.empty, none, 0, []⟩⟩
theorem list8 {α : Type} {l : List α} (h : l.length = 8) : ∃ a b c d e f g i, l = [a, b, c, d, e, f, g, i] := by
  match l, h with
  | [a, b, c, d, e, f, g, i], _ => exact ⟨a, b, c, d, e, f, g, i, rfl⟩
section
variable {W : World} {H : Type} {en : TypeId × Value → H} {base : Nat} {spare : Nat → Bool} {held : Bool}
theorem byteq_trod (fuel : Nat) (cs : List Value) (y : DataW H × List MemPlace) (h : DataW.trod en Try.prog W base spare held fuel 5 cs = some y) : ∃ x : UInt8, cs = [bv x] ∧ True := by
  obtain ⟨k, e0, d0, w0⟩ := DataW.trod_int Try.underlying5 h
  have w0 : 0 ≤ k ∧ k ≤ 255 := by simp only [Lit.wf, decide_eq_true_eq, Bool.and_eq_true] at w0; exact w0
  exact ⟨UInt8.ofNat k.toNat, by rw [e0, bv_of k w0.1 w0.2], trivial⟩
theorem bytesq_trod {fuel : Nat} {v : Value} {x : DataW H × List MemPlace} (h : DataW.trod en Try.prog W base spare held fuel 23 [v] = some x) (hw : ∀ q ∈ x.1.weights Try.prog 23, q ≤ reachBytes) :
    ∃ (A : Option Addr) (c : Nat) (b : Bytes), v = .slice A b.length c ∧ BOk W A c b := by
  obtain ⟨A, n, c, l, rfl, hl⟩ := rows_trod Try.underlying23 (k := 1) (by kernel_rfl) (by omega) (fun x : UInt8 => [bv x]) (fun _ => rfl) (fun _ => True) (fun fu cs y hy _ => byteq_trod fu cs y hy) h hw
  have hn := hl.len
  subst hn
  refine ⟨A, c, l, rfl, ?_, hl.cap, hl.max, hl.nil_⟩
  have := hl.rd
  rw [flat_bv] at this
  exact this
set_option maxRecDepth 100000 in
theorem aq_trod (fuel : Nat) (cs : List Value) (y : DataW H × List MemPlace) (h : DataW.trod en Try.prog W base spare held fuel 62 cs = some y) (hw : ∀ q ∈ y.1.weights Try.prog 62, q ≤ reachBytes) :
    ∃ x : Aq, cs = x.cells ∧ AqOk W x := by
  obtain ⟨xs, n, _, hy, hl, hlen, hf⟩ := DataW.trod_struct Try.underlying62 h
  have h8 : Try.prog.cellsOf 62 = 8 := by kernel_rfl
  have c1 : Try.prog.cellsOf 5 = 1 := by kernel_rfl
  have c2 : Try.prog.cellsOf 32 = 1 := by kernel_rfl
  have c3 : Try.prog.cellsOf 23 = 1 := by kernel_rfl
  have c4 : Try.prog.cellsOf 9 = 1 := by kernel_rfl
  rw [h8] at hl
  obtain ⟨a0, a1, a2, a3, a4, a5, a6, a7, rfl⟩ := list8 hl
  obtain ⟨y0, y1, y2, y3, y4, y5, y6, y7, rfl⟩ := list8 hlen
  have h0 : DataW.trod en Try.prog W base spare held n 5 (List.take (Try.prog.cellsOf 5) (List.drop 0 [a0, a1, a2, a3, a4, a5, a6, a7])) = some y0 := hf 0 _ rfl
  rw [c1] at h0
  have h1 : DataW.trod en Try.prog W base spare held n 5 (List.take (Try.prog.cellsOf 5) (List.drop 1 [a0, a1, a2, a3, a4, a5, a6, a7])) = some y1 := hf 1 _ rfl
  rw [c1] at h1
  have h2 : DataW.trod en Try.prog W base spare held n 32 (List.take (Try.prog.cellsOf 32) (List.drop 2 [a0, a1, a2, a3, a4, a5, a6, a7])) = some y2 := hf 2 _ rfl
  rw [c2] at h2
  have h3 : DataW.trod en Try.prog W base spare held n 32 (List.take (Try.prog.cellsOf 32) (List.drop 3 [a0, a1, a2, a3, a4, a5, a6, a7])) = some y3 := hf 3 _ rfl
  rw [c2] at h3
  have h4 : DataW.trod en Try.prog W base spare held n 32 (List.take (Try.prog.cellsOf 32) (List.drop 4 [a0, a1, a2, a3, a4, a5, a6, a7])) = some y4 := hf 4 _ rfl
  rw [c2] at h4
  have h5 : DataW.trod en Try.prog W base spare held n 9 (List.take (Try.prog.cellsOf 9) (List.drop 5 [a0, a1, a2, a3, a4, a5, a6, a7])) = some y5 := hf 5 _ rfl
  rw [c4] at h5
  have h6 : DataW.trod en Try.prog W base spare held n 9 (List.take (Try.prog.cellsOf 9) (List.drop 6 [a0, a1, a2, a3, a4, a5, a6, a7])) = some y6 := hf 6 _ rfl
  rw [c4] at h6
  have h7 : DataW.trod en Try.prog W base spare held n 23 (List.take (Try.prog.cellsOf 23) (List.drop 7 [a0, a1, a2, a3, a4, a5, a6, a7])) = some y7 := hf 7 _ rfl
  rw [c3] at h7
  obtain ⟨k0, e0, d0, w0⟩ := DataW.trod_int Try.underlying5 h0
  obtain ⟨k1, e1, d1, w1⟩ := DataW.trod_int Try.underlying5 h1
  obtain ⟨k2, e2, d2, w2⟩ := DataW.trod_int Try.underlying32 h2
  obtain ⟨k3, e3, d3, w3⟩ := DataW.trod_int Try.underlying32 h3
  obtain ⟨k4, e4, d4, w4⟩ := DataW.trod_int Try.underlying32 h4
  obtain ⟨s5, e5, d5, _⟩ := DataW.trod_string Try.underlying9 h5
  obtain ⟨s6, e6, d6, _⟩ := DataW.trod_string Try.underlying9 h6
  rw [hy] at hw
  simp only [List.map_cons, List.map_nil, d0, d1, d2, d3, d4, d5, d6, DataW.weights, Try.underlying62] at hw
  have hrb : reachBytes ≤ 1125899906842624 := by decide
  have hn5 : s5.size ≤ 1125899906842624 := Nat.le_trans (hw _ (by simp [DataW.weightsEach, DataW.weights])) hrb
  have hn6 : s6.size ≤ 1125899906842624 := Nat.le_trans (hw _ (by simp [DataW.weightsEach, DataW.weights])) hrb
  obtain ⟨A, c, b, e7, hb⟩ := bytesq_trod (v := a7) h7 (fun q hq => hw q (by simp [DataW.weightsEach]; simp [hq]))
  simp only [List.drop_zero, List.drop_succ_cons, List.take_succ_cons, List.take_zero, List.cons.injEq, and_true] at e0 e1 e2 e3 e4 e5 e6
  subst e0 e1 e2 e3 e4 e5 e6 e7
  have w0 : 0 ≤ k0 ∧ k0 ≤ 255 := by simp only [Lit.wf, decide_eq_true_eq, Bool.and_eq_true] at w0; exact w0
  have w1 : 0 ≤ k1 ∧ k1 ≤ 255 := by simp only [Lit.wf, decide_eq_true_eq, Bool.and_eq_true] at w1; exact w1
  have w2 : 0 ≤ k2 ∧ k2 ≤ 18446744073709551615 := by simp only [Lit.wf, decide_eq_true_eq, Bool.and_eq_true] at w2; exact w2
  have w3 : 0 ≤ k3 ∧ k3 ≤ 18446744073709551615 := by simp only [Lit.wf, decide_eq_true_eq, Bool.and_eq_true] at w3; exact w3
  have w4 : 0 ≤ k4 ∧ k4 ≤ 18446744073709551615 := by simp only [Lit.wf, decide_eq_true_eq, Bool.and_eq_true] at w4; exact w4
  refine ⟨⟨k0.toNat, k1.toNat, k2.toNat, k3.toNat, k4.toNat, s5, s6, A, c, b⟩, ?_, ⟨by simp only; omega, by simp only; omega, by simp only; omega, by simp only; omega, by simp only; omega, hn5, hn6, hb⟩⟩
  simp only [Aq.cells]
  rw [Int.toNat_of_nonneg w0.1, Int.toNat_of_nonneg w1.1, Int.toNat_of_nonneg w2.1, Int.toNat_of_nonneg w3.1, Int.toNat_of_nonneg w4.1]
theorem acts_trod {fuel : Nat} {v : Value} {x : DataW H × List MemPlace} (h : DataW.trod en Try.prog W base spare held fuel 60 [v] = some x) (hw : ∀ q ∈ x.1.weights Try.prog 60, q ≤ reachBytes) :
    ∃ (A : Option Addr) (n c : Nat) (l : List Aq), v = .slice A n c ∧ AIn W Aq.cells (AqOk W) A n c l :=
  rows_trod Try.underlying60 (k := 8) (by kernel_rfl) (by omega) Aq.cells (fun _ => rfl) (AqOk W) aq_trod h hw
end
theorem aq_cells {w : World} {g off : Nat} {l : List Aq} (h : Rd w (some ⟨g, off, none⟩) (l.flatMap Aq.cells)) (i : Nat) (hi : i < l.length) :
    ∀ c u, c < 8 → (l[i].cells)[c]? = some u → w.cell? ⟨g, off + i * 8 + c, none⟩ = some u := elem_cells Aq.cells 8 (fun _ => rfl) h i hi
end Go.Proofs.Ytdgggjeiflllhaa.M
