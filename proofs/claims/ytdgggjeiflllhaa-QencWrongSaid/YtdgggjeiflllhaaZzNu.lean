/- Nu -/
import Derived.BigQuiet
import Derived.Test.YtdgggjeiflllhaaZzNq
import Derived.Test.YtdgggjeiflllhaaZzQkt
import Derived.Test.YtdgggjeiflllhaaZzFeq
import Derived.Test.YtdgggjeiflllhaaZzIn
import Derived.Test.YtdgggjeiflllhaaZzGin
import Derived.Test.YtdgggjeiflllhaaZzLight
import Derived.IntWalk
import Derived.Deep.CutBlock
import Derived.Deep.LoopGhost
import Derived.Below

namespace Go.Proofs.Ytdgggjeiflllhaa.M
open Go.ChangeShapes Go.WideShapes Go.ChangeAt Go.RowKit
structure QNt (w0 w : World) (X : Nat → Prop) (pe g bm : Nat) (E : Qn) : Prop where
  at_ : ∃ S Ar cr L, QnM X w pe g bm S Ar cr L E
  frm : Frm (New w0) w0 w
  low : ∀ k, X k → w0.heap.size ≤ k
def KEnc (w0 w : World) (X : Nat → Prop) (pe g bm : Nat) (R : (Bytes × Bytes) × Qn) (e : Ending) (w' : World) : Prop :=
  ∃ (X' : Nat → Prop) (A1 : Option Addr) (c1 : Nat) (A2 : Option Addr) (c2 : Nat), QNt w0 w' X' pe g bm R.2 ∧ e = .returned (.tuple #[.slice A1 R.1.1.length c1, .slice A2 R.1.2.length c2]) ∧ (R.1.1 ≠ [] → QKept w' X' A1 (bvs R.1.1)) ∧ Rd w' A1 (bvs R.1.1) ∧ R.1.1.length ≤ c1 ∧ (R.1.2 ≠ [] → QKept w' X' A2 (bvs R.1.2)) ∧ Rd w' A2 (bvs R.1.2) ∧ R.1.2.length ≤ c2 ∧ Frm (Own X w) w w' ∧ (∀ k, X' k → Own X w k) ∧ ∀ k, M.blk A1 = some k ∨ M.blk A2 = some k → Own X w k
section
variable {w0 w w' : World} {X X' : Nat → Prop} {pe g bm : Nat} {E E2 : Qn} {A : Option Addr} {xs : List Value}
theorem QNt.fresh (h : QNt w0 w X pe g bm E) (f : Frm (New w) w w') : QNt w0 w' X pe g bm E := by
  obtain ⟨⟨S, Ar, cr, L, h1⟩, h2, h3⟩ := h
  exact ⟨⟨S, Ar, cr, L, h1.fresh f⟩, h2.then_new Up.new f, h3⟩
theorem QNt.blow (h : QNt w0 w X pe g bm E) : ∀ k, X k → k < w.heap.size := by
  obtain ⟨⟨S, Ar, cr, L, h1⟩, h2, h3⟩ := h
  exact h1.low
theorem QNt.xp (h : QNt w0 w X pe g bm E) : X pe := by
  obtain ⟨⟨S, Ar, cr, L, h1⟩, h2, h3⟩ := h
  exact h1.xp
theorem QNt.step (h : QNt w0 w X pe g bm E) (ha : ∃ S Ar cr L, QnM X' w' pe g bm S Ar cr L E2) (f : Frm (Own X w) w w') (hs : ∀ k, X' k → Own X w k) : QNt w0 w' X' pe g bm E2 := by
  have hz := h.frm.size
  have hl : ∀ k, Own X w k → New w0 k := fun k hk => by
    rcases hk with q | q
    · exact h.low k q
    · exact Nat.le_trans hz q
  exact ⟨ha, h.frm.trans (f.mono hl), fun k hk => hl k (hs k hk)⟩
theorem QKept.of_bytes {l : Bytes} (hr : Rd w A (bvs l)) (hx : ∀ k, M.blk A = some k → ¬ X k) (hne : l ≠ []) : QKept w X A (bvs l) := ⟨hr, fun k hk => ⟨hx k hk, by
  obtain ⟨g9, o9, rfl, h9⟩ := hr.lt (by
    cases l with
    | nil => exact absurd rfl hne
    | cons x t => simp [bvs])
  cases hk
  exact h9⟩⟩
theorem kqn_enc (h : QNt w0 w X pe g bm E) (s : Nat) (l : List Fld) (A : Option Addr) (c : Nat) (hR : Rd w A (fvs l)) (hAX : ∀ k, M.blk A = some k → l ≠ [] → ¬ X k) (hl : l.length ≤ 1000) (hf : ∀ f ∈ l, f.1.length + f.2.length ≤ 100000) (hn : E.t.n + l.length ≤ 1152921504606846976) (hop : E.opn.length ≤ 1073741824) :
    Calls Try.prog 14 #[.pointer (some ⟨pe, 0, none⟩), .int .u64 (s : Int), .slice A l.length c] w (KEnc w0 w X pe g bm (E.enc s l)) := by
  have h0 := h
  obtain ⟨⟨S, Ar, cr, L, h1⟩, h2, h3⟩ := h
  refine (nenc_any h1 s l A c hR hAX hl hf hn hop).mono ?_
  rintro e w' ⟨A1, c1, A2, c2, X', S', L', he, q1, q2, q3, q4, q5, q6, q7, q8⟩
  exact ⟨X', A1, c1, A2, c2, h0.step ⟨S', Ar, cr, L', q5⟩ q6 q7, he, QKept.of_bytes q1 (fun k hk => (q8 k (.inl hk)).2), q1, q2, QKept.of_bytes q3 (fun k hk => (q8 k (.inr hk)).2), q3, q4, q6, q7, fun k hk => (q8 k hk).1⟩
theorem kqn_feed (h : QNt w0 w X pe g bm E) (b : Bytes) (A0 : Option Addr) (c0 : Nat) (hR : Rd w A0 (bvs b)) (hlen : E.rest.length + b.length ≤ 1099511627776) :
    Calls Try.prog 18 #[.pointer (some ⟨pe, 0, none⟩), .slice A0 b.length c0] w fun e w' => e = .returned (.int .i64 ((E.feed b).1 : Nat)) ∧ ∃ X', QNt w0 w' X' pe g bm (E.feed b).2 ∧ Frm (Own X w) w w' ∧ ∀ k, X' k → Own X w k := by
  have h0 := h
  obtain ⟨⟨S, Ar, cr, L, h1⟩, h2, h3⟩ := h
  refine (nfeed_any h1 b A0 c0 hR hlen).mono ?_
  rintro e w' ⟨he, X', A', c', L', q1, q2, q3⟩
  exact ⟨he, X', h0.step ⟨S, A', c', L', q1⟩ q2 q3, q2, q3⟩
theorem kqn_known (h : QNt w0 w X pe g bm E) : Calls Try.prog 20 #[.pointer (some ⟨pe, 0, none⟩)] w fun e w' => e = .returned (.int .u64 (E.known : Int)) ∧ w' = w := by
  obtain ⟨⟨S, Ar, cr, L, h1⟩, h2, h3⟩ := h
  exact nknown_any h1
theorem kqn_table (h : QNt w0 w X pe g bm E) : Calls Try.prog 37 #[.pointer (some ⟨pe, 0, none⟩)] w fun e w' => e = .returned (.pointer (some ⟨g, 0, none⟩)) ∧ w' = w := by
  obtain ⟨⟨S, Ar, cr, L, h1⟩, h2, h3⟩ := h
  exact ntable_any h1
theorem kqn_len (h : QNt w0 w X pe g bm E) : Calls Try.prog 38 #[.pointer (some ⟨g, 0, none⟩)] w fun e w' => e = .returned (.int .i64 (E.t.l.length : Nat)) ∧ w' = w := by
  obtain ⟨⟨S, Ar, cr, L, h1⟩, h2, h3⟩ := h
  exact tlenT_any w h1.tab
end
theorem kqn_new (n k : Int) (n0 : -9223372036854775808 ≤ n) (n1 : n ≤ 9223372036854775807) (k0 : -9223372036854775808 ≤ k) (k1 : k ≤ 9223372036854775807) (w0 w : World) (f : Frm (New w0) w0 w) :
    Calls Try.prog 11 #[.int .i64 n, .int .i64 k] w fun e w' => ∃ (X : Nat → Prop) (pe g bm : Nat), e = .returned (.pointer (some ⟨pe, 0, none⟩)) ∧ QNt w0 w' X pe g bm (Qn.new (lim n) (max k 0).toNat) ∧ Frm (New w) w w' ∧ ∀ k, X k → w.heap.size ≤ k := by
  refine (nnew_any n k n0 n1 k0 k1 w).mono ?_
  rintro e w' ⟨X, pe, g, bm, S, he, q1, q2, q3⟩
  exact ⟨X, pe, g, bm, he, ⟨⟨S, _, _, _, q1⟩, f.then_new Up.new q2, fun k hk => Nat.le_trans f.size (q3 k hk)⟩, q2, q3⟩
def kn9F1 : List Fld := [([58, 109, 101, 116, 104, 111, 100], [71, 69, 84])]
def kn9F2 : List Fld := [([120], [121])]
def kn9E1 : Qn := { Qn.new 400 1 with begun := true }
theorem kn9_1 : (Qn.new 400 1).enc 0 kn9F1 = (([63, 241, 2], [0, 0, 209]), kn9E1) := by kernel_rfl
theorem kn9_2 : kn9E1.enc 4 kn9F2 = (([65, 120, 1, 121], [2, 0, 128]), ⟨⟨[([120], [121])], 1, 400⟩, 1, 0, [⟨4, 1, [0]⟩], [], true, 0⟩) := by kernel_rfl
theorem kn9_3 : (⟨⟨[([120], [121])], 1, 400⟩, 1, 0, [⟨4, 1, [0]⟩], [], true, 0⟩ : Qn).feed [132] = (0, ⟨⟨[([120], [121])], 1, 400⟩, 1, 1, [], [], true, 0⟩) := by kernel_rfl
end Go.Proofs.Ytdgggjeiflllhaa.M
namespace Go.Proofs.Ytdgggjeiflllhaa.M
open Go.ChangeShapes Go.WideShapes Go.ChangeAt Go.RowKit
theorem kqn_enc2 {w0 w : World} {X : Nat → Prop} {pe g bm : Nat} {E : Qn} (h : QNt w0 w X pe g bm E) (s : Nat) (l : List Fld) (arr : Array Value) (ha : (fvs l).toArray = arr) (n : Nat) (hn : l.length = n) (hl : l.length ≤ 1000) (hf : ∀ f ∈ l, f.1.length + f.2.length ≤ 100000) (hnn : E.t.n + l.length ≤ 1152921504606846976) (hop : E.opn.length ≤ 1073741824) :
    Calls Try.prog 14 #[.pointer (some ⟨pe, 0, none⟩), .int .u64 (s : Int), .slice (some ⟨w.heap.size, 0, none⟩) n n] (w.alloc (Obj.cells arr 71)) (KEnc w0 (w.alloc (Obj.cells arr 71)) X pe g bm (E.enc s l)) := by
  subst hn ha
  have hF : Frm (New w) w (w.alloc (Obj.cells (fvs l).toArray 71)) := (Frm.refl _ _).alloc Up.new _
  refine kqn_enc (h.fresh hF) s l _ _ (Rd.new w (fvs l).toArray 71) (fun k hk _ e => ?_) hl hf hnn hop
  have hk2 : w.heap.size = k := by simpa using hk
  subst hk2
  exact Nat.lt_irrefl _ (h.blow _ e)
theorem kqn_feed2 {w0 w : World} {X : Nat → Prop} {pe g bm : Nat} {E : Qn} (h : QNt w0 w X pe g bm E) (b : Bytes) (arr : Array Value) (ha : (bvs b).toArray = arr) (n : Nat) (hn : b.length = n) (hlen : E.rest.length + b.length ≤ 1099511627776) :
    Calls Try.prog 18 #[.pointer (some ⟨pe, 0, none⟩), .slice (some ⟨w.heap.size, 0, none⟩) n n] (w.alloc (Obj.cells arr 5)) fun e w' => e = .returned (.int .i64 ((E.feed b).1 : Nat)) ∧ ∃ X', QNt w0 w' X' pe g bm (E.feed b).2 ∧ Frm (Own X (w.alloc (Obj.cells arr 5))) (w.alloc (Obj.cells arr 5)) w' ∧ ∀ k, X' k → Own X (w.alloc (Obj.cells arr 5)) k := by
  subst hn ha
  have hF : Frm (New w) w (w.alloc (Obj.cells (bvs b).toArray 5)) := (Frm.refl _ _).alloc Up.new _
  exact kqn_feed (h.fresh hF) b _ _ (Rd.new w (bvs b).toArray 5) hlen
def kn9E2 : Qn := ⟨⟨[([120], [121])], 1, 400⟩, 1, 0, [⟨4, 1, [0]⟩], [], true, 0⟩
def kn9E3 : Qn := ⟨⟨[([120], [121])], 1, 400⟩, 1, 1, [], [], true, 0⟩
set_option maxRecDepth 100000 in
set_option maxHeartbeats 4000000 in
theorem known9_any (w : World) : Calls Try.prog 10 #[] w fun e w' => e = .returned (.bool true) ∧ Frm (New w) w w' := by
  go_enter Try.func10, Try.ntmps10
  go_wp2_with (fail)
  refine (kqn_new 400 1 (by omega) (by omega) (by omega) (by omega) w w (Frm.refl _ _)).mono ?_
  rintro e w1 ⟨X1, pe, g, bm, rfl, hK1, _, _⟩
  replace hK1 : QNt w w1 X1 pe g bm (Qn.new 400 1) := hK1
  have HK1 := Lib.hid hK1
  clear hK1
  go_wp2_with (refine wpList_val rfl _ (build_fld rfl) ?_)
  have hd := kqn_enc2 HK1.out 0 kn9F1 #[.string ⟨#[58, 109, 101, 116, 104, 111, 100]⟩, .string ⟨#[71, 69, 84]⟩] rfl 1 rfl (by decide) (by decide) (by decide) (by decide)
  rw [kn9_1] at hd
  refine hd.mono ?_
  rintro e w2 ⟨X2, A1, c1, A2, c2, hK2, rfl, hA1, _, _, hA2, _, _, _, _, _⟩
  replace hA1 := hA1 (by decide)
  replace hA2 := hA2 (by decide)
  have HK2 := Lib.hid hK2
  have HA1 := Lib.hid hA1
  have HA2 := Lib.hid hA2
  clear hK2 hA1 hA2
  clear hd
  rw [show ([63, 241, 2] : Bytes).length = 3 from rfl, show ([0, 0, 209] : Bytes).length = 3 from rfl]
  go_wp2_with (refine wpList_val rfl _ (build_fld rfl) ?_)
  have hd := kqn_enc2 HK2.out 4 kn9F2 #[.string ⟨#[120]⟩, .string ⟨#[121]⟩] rfl 1 rfl (by decide) (by decide) (by decide) (by decide)
  rw [kn9_2] at hd
  refine hd.mono ?_
  rintro e w3 ⟨X3, A3, c3, A4, c4, hK3, rfl, _, _, _, hA4, _, _, f3, s3, _⟩
  replace hA4 := hA4 (by decide)
  replace hK3 : QNt w w3 X3 pe g bm kn9E2 := hK3
  have hA13 := (HA1.out.fresh ((Frm.refl _ _).alloc Up.new _)).keep f3 s3
  have hA23 := (HA2.out.fresh ((Frm.refl _ _).alloc Up.new _)).keep f3 s3
  have HK3 := Lib.hid hK3
  have HA4 := Lib.hid hA4
  have HA13 := Lib.hid hA13
  have HA23 := Lib.hid hA23
  clear hK3 hA4 hA13 hA23
  clear hd f3 s3 HA1 HA2
  rw [show ([65, 120, 1, 121] : Bytes).length = 4 from rfl, show ([2, 0, 128] : Bytes).length = 3 from rfl]
  go_wp2_with (fail)
  have hd := kqn_feed2 HK3.out [132] #[.int .u8 132] rfl 1 rfl (by decide)
  rw [show kn9E2.feed [132] = (0, kn9E3) from kn9_3] at hd
  refine hd.mono ?_
  rintro e w4 ⟨rfl, X4, hK4, f4, s4⟩
  have hA14 := (HA13.out.fresh ((Frm.refl _ _).alloc Up.new _)).keep f4 s4
  have hA24 := (HA23.out.fresh ((Frm.refl _ _).alloc Up.new _)).keep f4 s4
  have hA44 := (HA4.out.fresh ((Frm.refl _ _).alloc Up.new _)).keep f4 s4
  have hc1 : (convert 23 9 (.slice A1 3 c1)).run Try.prog w4 = .ok (.string ⟨#[63, 241, 2]⟩) w4 := run_conv (l := [63, 241, 2]) hA14.rd
  have hc2 : (convert 23 9 (.slice A2 3 c2)).run Try.prog w4 = .ok (.string ⟨#[0, 0, 209]⟩) w4 := run_conv (l := [0, 0, 209]) hA24.rd
  have hc4 : (convert 23 9 (.slice A4 3 c4)).run Try.prog w4 = .ok (.string ⟨#[2, 0, 128]⟩) w4 := run_conv (l := [2, 0, 128]) hA44.rd
  have HK4 := Lib.hid hK4
  clear hK4
  clear hd f4 s4 hA14 hA24 hA44 HA13 HA23 HA4 HK1 HK2 HK3
  go_wp2_with (first
    | (go_at_call 20; refine (kqn_known HK4.out).mono ?_; rintro e w9 ⟨rfl, hw⟩; rw [hw, show kn9E3.known = 1 from rfl]; clear hw w9)
    | (go_at_call 37; refine (kqn_table HK4.out).mono ?_; rintro e w9 ⟨rfl, hw⟩; rw [hw]; clear hw w9)
    | (go_at_call 38; refine (kqn_len HK4.out).mono ?_; rintro e w9 ⟨rfl, hw⟩; rw [hw, show kn9E3.t.l.length = 1 from rfl]; clear hw w9))
  go_ret
  exact ⟨rfl, HK4.out.frm⟩
end Go.Proofs.Ytdgggjeiflllhaa.M
namespace Go.Proofs.Ytdgggjeiflllhaa.M
open Go.ChangeShapes Go.WideShapes Go.ChangeAt Go.RowKit
instance : Inhabited Fld := ⟨([], [])⟩
def fcells (f : Fld) : List Value := [str f.1, str f.2]
theorem fcells_fvs (l : List Fld) : l.flatMap fcells = fvs l := rfl
def FldOk (f : Fld) : Prop := f.1.length ≤ 1125899906842624 ∧ f.2.length ≤ 1125899906842624
section
variable {W : World} {H : Type} {en : TypeId × Value → H} {base : Nat} {spare : Nat → Bool} {held : Bool}
set_option maxRecDepth 100000 in
theorem fld_trod (fuel : Nat) (cs : List Value) (y : DataW H × List MemPlace) (h : DataW.trod en Try.prog W base spare held fuel 71 cs = some y) (hw : ∀ q ∈ y.1.weights Try.prog 71, q ≤ reachBytes) :
    ∃ f : Fld, cs = fcells f ∧ FldOk f := by
  obtain ⟨xs, n, _, hy, hl, hlen, hf⟩ := DataW.trod_struct Try.underlying71 h
  have h5 : Try.prog.cellsOf 71 = 2 := by kernel_rfl
  have c3 : Try.prog.cellsOf 9 = 1 := by kernel_rfl
  rw [h5] at hl
  obtain ⟨a0, a1, rfl⟩ := list2 hl
  obtain ⟨y0, y1, rfl⟩ := list2 hlen
  have h0 : DataW.trod en Try.prog W base spare held n 9 (List.take (Try.prog.cellsOf 9) (List.drop 0 [a0, a1])) = some y0 := hf 0 _ rfl
  rw [c3] at h0
  have h1 : DataW.trod en Try.prog W base spare held n 9 (List.take (Try.prog.cellsOf 9) (List.drop 1 [a0, a1])) = some y1 := hf 1 _ rfl
  rw [c3] at h1
  obtain ⟨s, e0, d0, _⟩ := DataW.trod_string Try.underlying9 h0
  obtain ⟨t, e1, d1, _⟩ := DataW.trod_string Try.underlying9 h1
  simp only [List.drop_zero, List.drop_succ_cons, List.take_succ_cons, List.take_zero, List.cons.injEq, and_true] at e0 e1
  subst e0 e1
  rw [hy] at hw
  simp only [List.map_cons, List.map_nil, d0, d1, DataW.weights, Try.underlying71] at hw
  have hrb : reachBytes ≤ 1125899906842624 := by decide
  refine ⟨(strOf (.string s), strOf (.string t)), ?_, ?_, ?_⟩
  · simp only [fcells, str_strOf]
  · exact Nat.le_trans (hw _ (by simp [DataW.weightsEach, DataW.weights, strOf])) hrb
  · exact Nat.le_trans (hw _ (by simp [DataW.weightsEach, DataW.weights, strOf])) hrb
end
end Go.Proofs.Ytdgggjeiflllhaa.M
namespace Go.Proofs.Ytdgggjeiflllhaa.M
open Go.ChangeShapes Go.WideShapes Go.ChangeAt Go.RowKit
theorem lsum_in {l : List Fld} {f : Fld} (h : f ∈ l) : f.1.length + f.2.length ≤ lsum l := by
  induction l with
  | nil => cases h
  | cons g r ih =>
    have e : lsum (g :: r) = (g.1.length + g.2.length) + lsum r := by simp [lsum]
    rw [e]
    rcases List.mem_cons.1 h with rfl | h
    · omega
    · have := ih h; omega
theorem light_in {l : List Fld} (h : light l = true) : ∀ f ∈ l, f.1.length + f.2.length ≤ 100000 := fun f hf => by
  have h1 := lsum_in hf
  have h2 := of_decide_eq_true h
  omega
end Go.Proofs.Ytdgggjeiflllhaa.M

