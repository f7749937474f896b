/- a QPACK encoder that a call itself made; bifoldlaw9.known holds. -/
import Derived.BigQuiet
import Derived.Test.YtdgggjeiflllhaaNt
import Derived.Test.YtdgggjeiflllhaaQu
import Derived.Test.YtdgggjeiflllhaaFeq
import Derived.Test.YtdgggjeiflllhaaIn
namespace Go.Proofs.Ytdgggjeiflllhaa.M
open Go.ChangeShapes Go.WideShapes Go.ChangeAt Go.RowKit

structure QNt (w0 w : World) (X : Nat → Prop) (pe g bm : Nat) (E : Qn) : Prop where
  at_ : ∃ S Ar cr L, QnM X w pe g bm S Ar cr L E
  frm : Frm (New w0) w0 w
  low : ∀ k, X k → w0.heap.size ≤ k
/-- what Encode leaves of it -/
def KEnc (w0 w : World) (X : Nat → Prop) (pe g bm : Nat) (R : (Bytes × Bytes) × Qn) (e : Ending) (w' : World) : Prop :=
  ∃ (X' : Nat → Prop) (A1 : Option Addr) (c1 : Nat) (A2 : Option Addr) (c2 : Nat), QNt w0 w' X' pe g bm R.2 ∧ e = .returned (.tuple #[.slice A1 R.1.1.length c1, .slice A2 R.1.2.length c2]) ∧ (R.1.1 ≠ [] → QKept w' X' A1 (bvs R.1.1)) ∧ Rd w' A1 (bvs R.1.1) ∧ R.1.1.length ≤ c1 ∧ (R.1.2 ≠ [] → QKept w' X' A2 (bvs R.1.2)) ∧ Rd w' A2 (bvs R.1.2) ∧ R.1.2.length ≤ c2 ∧ Frm (Own X w) w w' ∧ (∀ k, X' k → Own X w k) ∧ ∀ k, M.blk A1 = some k ∨ M.blk A2 = some k → Own X w k
section
variable {w0 w w' : World} {X X' : Nat → Prop} {pe g bm : Nat} {E E2 : Qn} {A : Option Addr} {xs : List Value}
theorem QNt.fresh (h : QNt w0 w X pe g bm E) (f : Frm (New w) w w') : QNt w0 w' X pe g bm E := by
  obtain ⟨⟨S, Ar, cr, L, h1⟩, h2, h3⟩ := h
  exact ⟨⟨S, Ar, cr, L, h1.fresh f⟩, h2.then_new Up.new f, h3⟩
theorem QNt.blow (h : QNt w0 w X pe g bm E) : ∀ k, X k → k < w.heap.size := by
  obtain ⟨⟨S, Ar, cr, L, h1⟩, h2, h3⟩ := h
  exact h1.low
theorem QNt.xp (h : QNt w0 w X pe g bm E) : X pe := by
  obtain ⟨⟨S, Ar, cr, L, h1⟩, h2, h3⟩ := h
  exact h1.xp
theorem QNt.step (h : QNt w0 w X pe g bm E) (ha : ∃ S Ar cr L, QnM X' w' pe g bm S Ar cr L E2) (f : Frm (Own X w) w w') (hs : ∀ k, X' k → Own X w k) : QNt w0 w' X' pe g bm E2 := by
  have hz := h.frm.size
  have hl : ∀ k, Own X w k → New w0 k := fun k hk => by
    rcases hk with q | q
    · exact h.low k q
    · exact Nat.le_trans hz q
  exact ⟨ha, h.frm.trans (f.mono hl), fun k hk => hl k (hs k hk)⟩
theorem QKept.of_bytes {l : Bytes} (hr : Rd w A (bvs l)) (hx : ∀ k, M.blk A = some k → ¬ X k) (hne : l ≠ []) : QKept w X A (bvs l) := ⟨hr, fun k hk => ⟨hx k hk, by
  obtain ⟨g9, o9, rfl, h9⟩ := hr.lt (by
    cases l with
    | nil => exact absurd rfl hne
    | cons x t => simp [bvs])
  cases hk
  exact h9⟩⟩
theorem kqn_enc (h : QNt w0 w X pe g bm E) (s : Nat) (l : List Fld) (A : Option Addr) (c : Nat) (hR : Rd w A (fvs l)) (hAX : ∀ k, M.blk A = some k → l ≠ [] → ¬ X k) (hl : l.length ≤ 1000) (hf : ∀ f ∈ l, f.1.length + f.2.length ≤ 100000) (hn : E.t.n + l.length ≤ 1152921504606846976) (hop : E.opn.length ≤ 1073741824) :
    Calls Try.prog 14 #[.pointer (some ⟨pe, 0, none⟩), .int .u64 (s : Int), .slice A l.length c] w (KEnc w0 w X pe g bm (E.enc s l)) := by
  have h0 := h
  obtain ⟨⟨S, Ar, cr, L, h1⟩, h2, h3⟩ := h
  refine (nenc_any h1 s l A c hR hAX hl hf hn hop).mono ?_
  rintro e w' ⟨A1, c1, A2, c2, X', S', L', he, q1, q2, q3, q4, q5, q6, q7, q8⟩
  exact ⟨X', A1, c1, A2, c2, h0.step ⟨S', Ar, cr, L', q5⟩ q6 q7, he, QKept.of_bytes q1 (fun k hk => (q8 k (.inl hk)).2), q1, q2, QKept.of_bytes q3 (fun k hk => (q8 k (.inr hk)).2), q3, q4, q6, q7, fun k hk => (q8 k hk).1⟩
theorem kqn_feed (h : QNt w0 w X pe g bm E) (b : Bytes) (A0 : Option Addr) (c0 : Nat) (hR : Rd w A0 (bvs b)) (hlen : E.rest.length + b.length ≤ 1099511627776) :
    Calls Try.prog 18 #[.pointer (some ⟨pe, 0, none⟩), .slice A0 b.length c0] w fun e w' => e = .returned (.int .i64 ((E.feed b).1 : Nat)) ∧ ∃ X', QNt w0 w' X' pe g bm (E.feed b).2 ∧ Frm (Own X w) w w' ∧ ∀ k, X' k → Own X w k := by
  have h0 := h
  obtain ⟨⟨S, Ar, cr, L, h1⟩, h2, h3⟩ := h
  refine (nfeed_any h1 b A0 c0 hR hlen).mono ?_
  rintro e w' ⟨he, X', A', c', L', q1, q2, q3⟩
  exact ⟨he, X', h0.step ⟨S, A', c', L', q1⟩ q2 q3, q2, q3⟩
theorem kqn_known (h : QNt w0 w X pe g bm E) : Calls Try.prog 20 #[.pointer (some ⟨pe, 0, none⟩)] w fun e w' => e = .returned (.int .u64 (E.known : Int)) ∧ w' = w := by
  obtain ⟨⟨S, Ar, cr, L, h1⟩, h2, h3⟩ := h
  exact nknown_any h1
theorem kqn_table (h : QNt w0 w X pe g bm E) : Calls Try.prog 37 #[.pointer (some ⟨pe, 0, none⟩)] w fun e w' => e = .returned (.pointer (some ⟨g, 0, none⟩)) ∧ w' = w := by
  obtain ⟨⟨S, Ar, cr, L, h1⟩, h2, h3⟩ := h
  exact ntable_any h1
theorem kqn_len (h : QNt w0 w X pe g bm E) : Calls Try.prog 38 #[.pointer (some ⟨g, 0, none⟩)] w fun e w' => e = .returned (.int .i64 (E.t.l.length : Nat)) ∧ w' = w := by
  obtain ⟨⟨S, Ar, cr, L, h1⟩, h2, h3⟩ := h
  exact tlenT_any w h1.tab
end
theorem kqn_new (n k : Int) (n0 : -9223372036854775808 ≤ n) (n1 : n ≤ 9223372036854775807) (k0 : -9223372036854775808 ≤ k) (k1 : k ≤ 9223372036854775807) (w0 w : World) (f : Frm (New w0) w0 w) :
    Calls Try.prog 11 #[.int .i64 n, .int .i64 k] w fun e w' => ∃ (X : Nat → Prop) (pe g bm : Nat), e = .returned (.pointer (some ⟨pe, 0, none⟩)) ∧ QNt w0 w' X pe g bm (Qn.new (lim n) (max k 0).toNat) ∧ Frm (New w) w w' ∧ ∀ k, X k → w.heap.size ≤ k := by
  refine (nnew_any n k n0 n1 k0 k1 w).mono ?_
  rintro e w' ⟨X, pe, g, bm, S, he, q1, q2, q3⟩
  exact ⟨X, pe, g, bm, he, ⟨⟨S, _, _, _, q1⟩, f.then_new Up.new q2, fun k hk => Nat.le_trans f.size (q3 k hk)⟩, q2, q3⟩
def kn9F1 : List Fld := [([58, 109, 101, 116, 104, 111, 100], [71, 69, 84])]
def kn9F2 : List Fld := [([120], [121])]
def kn9E1 : Qn := { Qn.new 400 1 with begun := true }
theorem kn9_1 : (Qn.new 400 1).enc 0 kn9F1 = (([63, 241, 2], [0, 0, 209]), kn9E1) := by kernel_rfl
theorem kn9_2 : kn9E1.enc 4 kn9F2 = (([65, 120, 1, 121], [2, 0, 128]), ⟨⟨[([120], [121])], 1, 400⟩, 1, 0, [⟨4, 1, [0]⟩], [], true, 0⟩) := by kernel_rfl
theorem kn9_3 : (⟨⟨[([120], [121])], 1, 400⟩, 1, 0, [⟨4, 1, [0]⟩], [], true, 0⟩ : Qn).feed [132] = (0, ⟨⟨[([120], [121])], 1, 400⟩, 1, 1, [], [], true, 0⟩) := by kernel_rfl
end Go.Proofs.Ytdgggjeiflllhaa.M
