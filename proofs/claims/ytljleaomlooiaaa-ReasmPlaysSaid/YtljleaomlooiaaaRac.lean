/- Arguments that are scripts. No condition. -/
import Derived.Lib.Hide
import Derived.Test.YtljleaomlooiaaaGin
import Derived.Test.YtljleaomlooiaaaRbb
namespace Go.Proofs.Ytljleaomlooiaaa.M
open Go.ChangeShapes Go.WideShapes Go.ChangeAt Go.RowKit

structure BOk (W : World) (A : Option Addr) (c : Nat) (b : Bytes) : Prop where
  rd : Rd W A (bvs b)
  cap : b.length ≤ c
  max : c ≤ maxLen
  nil_ : A = none → c = 0
theorem BOk.low {W : World} {A : Option Addr} {c : Nat} {b : Bytes} (h : BOk W A c b) (hn : b ≠ []) : ∀ k, blk A = some k → k < W.heap.size := fun k hk => by
  obtain ⟨g, off, rfl, hg⟩ := h.rd.lt (fun e => hn (by
    cases b with
    | nil => rfl
    | cons x r => cases e))
  simp only [blk_some, Option.some.injEq] at hk
  omega
theorem flat_bv : ∀ b : Bytes, b.flatMap (fun x => [bv x]) = bvs b
  | [] => rfl
  | x :: r => by rw [List.flatMap_cons, flat_bv r]; rfl
/-- an act -/
structure Ac where
  k : Nat
  off : Nat
  A : Option Addr
  c : Nat
  b : Bytes
  fin : Bool
  n : Int
def Ac.cells (x : Ac) : List Value := [.int .u8 x.k, .int .u64 x.off, .slice x.A x.b.length x.c, .bool x.fin, .int .i64 x.n]
structure AcOk (W : World) (x : Ac) : Prop where
  k : x.k ≤ 255
  off : x.off < 18446744073709551616
  b : BOk W x.A x.c x.b
  n : -9223372036854775808 ≤ x.n ∧ x.n ≤ 9223372036854775807
instance : Inhabited Ac := ⟨⟨0, 0, none, 0, [], false, 0⟩⟩
section
variable {W : World} {H : Type} {en : TypeId × Value → H} {base : Nat} {spare : Nat → Bool} {held : Bool}
theorem byte_trod (fuel : Nat) (cs : List Value) (y : DataW H × List MemPlace) (h : DataW.trod en Try.prog W base spare held fuel 5 cs = some y) : ∃ x : UInt8, cs = [bv x] ∧ True := by
  obtain ⟨k, e0, d0, w0⟩ := DataW.trod_int Try.underlying5 h
  have w0 : 0 ≤ k ∧ k ≤ 255 := by simp only [Lit.wf, decide_eq_true_eq, Bool.and_eq_true] at w0; exact w0
  exact ⟨UInt8.ofNat k.toNat, by rw [e0, bv_of k w0.1 w0.2], trivial⟩
theorem bytes_trod {fuel : Nat} {v : Value} {x : DataW H × List MemPlace} (h : DataW.trod en Try.prog W base spare held fuel 22 [v] = some x) (hw : ∀ q ∈ x.1.weights Try.prog 22, q ≤ reachBytes) :
    ∃ (A : Option Addr) (c : Nat) (b : Bytes), v = .slice A b.length c ∧ BOk W A c b := by
  obtain ⟨A, n, c, l, rfl, hl⟩ := rows_trod Try.underlying22 (k := 1) (by kernel_rfl) (by omega) (fun x : UInt8 => [bv x]) (fun _ => rfl) (fun _ => True) (fun fu cs y hy _ => byte_trod fu cs y hy) h hw
  have hn := hl.len
  subst hn
  refine ⟨A, c, l, rfl, ?_, hl.cap, hl.max, hl.nil_⟩
  have := hl.rd
  rw [flat_bv] at this
  exact this
set_option maxRecDepth 100000 in
theorem act_trod (fuel : Nat) (cs : List Value) (y : DataW H × List MemPlace) (h : DataW.trod en Try.prog W base spare held fuel 43 cs = some y) (hw : ∀ q ∈ y.1.weights Try.prog 43, q ≤ reachBytes) :
    ∃ x : Ac, cs = x.cells ∧ AcOk W x := by
  obtain ⟨xs, n, _, hy, hl, hlen, hf⟩ := DataW.trod_struct Try.underlying43 h
  have h5 : Try.prog.cellsOf 43 = 5 := by kernel_rfl
  have c1 : Try.prog.cellsOf 5 = 1 := by kernel_rfl
  have c2 : Try.prog.cellsOf 27 = 1 := by kernel_rfl
  have c3 : Try.prog.cellsOf 22 = 1 := by kernel_rfl
  have c4 : Try.prog.cellsOf 4 = 1 := by kernel_rfl
  have c5 : Try.prog.cellsOf 3 = 1 := by kernel_rfl
  rw [h5] at hl
  obtain ⟨a0, a1, a2, a3, a4, rfl⟩ := list5 hl
  obtain ⟨y0, y1, y2, y3, y4, rfl⟩ := list5 hlen
  have h0 : DataW.trod en Try.prog W base spare held n 5 (List.take (Try.prog.cellsOf 5) (List.drop 0 [a0, a1, a2, a3, a4])) = some y0 := hf 0 _ rfl
  rw [c1] at h0
  have h1 : DataW.trod en Try.prog W base spare held n 27 (List.take (Try.prog.cellsOf 27) (List.drop 1 [a0, a1, a2, a3, a4])) = some y1 := hf 1 _ rfl
  rw [c2] at h1
  have h2 : DataW.trod en Try.prog W base spare held n 22 (List.take (Try.prog.cellsOf 22) (List.drop 2 [a0, a1, a2, a3, a4])) = some y2 := hf 2 _ rfl
  rw [c3] at h2
  have h3 : DataW.trod en Try.prog W base spare held n 4 (List.take (Try.prog.cellsOf 4) (List.drop 3 [a0, a1, a2, a3, a4])) = some y3 := hf 3 _ rfl
  rw [c4] at h3
  have h4 : DataW.trod en Try.prog W base spare held n 3 (List.take (Try.prog.cellsOf 3) (List.drop 4 [a0, a1, a2, a3, a4])) = some y4 := hf 4 _ rfl
  rw [c5] at h4
  rw [hy] at hw
  simp only [List.map_cons, List.map_nil, DataW.weights, Try.underlying43] at hw
  obtain ⟨k, e0, d0, w0⟩ := DataW.trod_int Try.underlying5 h0
  obtain ⟨i, e1, d1, w1⟩ := DataW.trod_int Try.underlying27 h1
  obtain ⟨A, c, b, e2, hb⟩ := bytes_trod (v := a2) h2 (fun q hq => hw q (by simp [DataW.weightsEach]; exact .inr (.inr (.inl hq))))
  obtain ⟨f, e3, d3⟩ := DataW.trod_bool Try.underlying4 h3
  obtain ⟨m, e4, d4, w4⟩ := DataW.trod_int Try.underlying3 h4
  simp only [List.drop_zero, List.drop_succ_cons, List.take_succ_cons, List.take_zero, List.cons.injEq, and_true] at e0 e1 e3 e4
  subst e0 e1 e2 e3 e4
  have w0 : 0 ≤ k ∧ k ≤ 255 := by simp only [Lit.wf, decide_eq_true_eq, Bool.and_eq_true] at w0; exact w0
  have w1 : 0 ≤ i ∧ i ≤ 18446744073709551615 := by simp only [Lit.wf, decide_eq_true_eq, Bool.and_eq_true] at w1; exact w1
  have w4 : -9223372036854775808 ≤ m ∧ m ≤ 9223372036854775807 := by simp only [Lit.wf, decide_eq_true_eq, Bool.and_eq_true] at w4; exact w4
  refine ⟨⟨k.toNat, i.toNat, A, c, b, f, m⟩, ?_, ⟨by simp only; omega, by simp only; omega, hb, w4⟩⟩
  simp only [Ac.cells]
  rw [Int.toNat_of_nonneg w0.1, Int.toNat_of_nonneg w1.1]
theorem acts_trod {fuel : Nat} {v : Value} {x : DataW H × List MemPlace} (h : DataW.trod en Try.prog W base spare held fuel 39 [v] = some x) (hw : ∀ q ∈ x.1.weights Try.prog 39, q ≤ reachBytes) :
    ∃ (A : Option Addr) (n c : Nat) (l : List Ac), v = .slice A n c ∧ AIn W Ac.cells (AcOk W) A n c l :=
  rows_trod Try.underlying39 (k := 5) (by kernel_rfl) (by omega) Ac.cells (fun _ => rfl) (AcOk W) act_trod h hw
end
theorem act_cells {w : World} {g off : Nat} {l : List Ac} (h : Rd w (some ⟨g, off, none⟩) (l.flatMap Ac.cells)) (i : Nat) (hi : i < l.length) :
    w.cell? ⟨g, off + i * 5, none⟩ = some (.int .u8 (l[i].k : Int)) ∧ w.cell? ⟨g, off + i * 5 + 1, none⟩ = some (.int .u64 (l[i].off : Int)) ∧ w.cell? ⟨g, off + i * 5 + 2, none⟩ = some (.slice l[i].A l[i].b.length l[i].c) ∧ w.cell? ⟨g, off + i * 5 + 3, none⟩ = some (.bool l[i].fin) ∧
      w.cell? ⟨g, off + i * 5 + 4, none⟩ = some (.int .i64 l[i].n) := by
  have key := elem_cells Ac.cells 5 (fun _ => rfl) h i hi
  exact ⟨key 0 _ (by omega) rfl, key 1 _ (by omega) rfl, key 2 _ (by omega) rfl, key 3 _ (by omega) rfl, key 4 _ (by omega) rfl⟩
end Go.Proofs.Ytljleaomlooiaaa.M
