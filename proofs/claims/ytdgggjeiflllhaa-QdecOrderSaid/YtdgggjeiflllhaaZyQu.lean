/- Qu -/
import Derived.BigQuiet
import Derived.Test.YtdgggjeiflllhaaZyQw
import Derived.Test.YtdgggjeiflllhaaZyIn

namespace Go.Proofs.Ytdgggjeiflllhaa.M
open Go.ChangeShapes Go.WideShapes Go.ChangeAt Go.RowKit
structure QKt (w0 w : World) (X : Nat → Prop) (pd g bm : Nat) (D : Qd) : Prop where
  at_ : QdAt X w pd g bm D
  frm : Frm (New w0) w0 w
  low : ∀ k, X k → w0.heap.size ≤ k
section
variable {w0 w w' : World} {X X' : Nat → Prop} {pd g bm : Nat} {D D2 : Qd} {A : Option Addr} {xs : List Value}
theorem QKt.fresh (h : QKt w0 w X pd g bm D) (f : Frm (New w) w w') : QKt w0 w' X pd g bm D := ⟨h.at_.fresh f, h.frm.then_new Up.new f, h.low⟩
theorem QdAt.low (h : QdAt X w pd g bm D) : ∀ k, X k → k < w.heap.size := by
  obtain ⟨S, Ar, cr, Ao, co, ents, h⟩ := h
  exact h.low
theorem QdAt.xp (h : QdAt X w pd g bm D) : X pd := by
  obtain ⟨S, Ar, cr, Ao, co, ents, h⟩ := h
  exact h.xp
theorem QdAt.tab (h : QdAt X w pd g bm D) : ∃ S, TabS S w g D.t := by
  obtain ⟨S, Ar, cr, Ao, co, ents, h⟩ := h
  exact ⟨S, h.tab⟩
theorem QKt.step (h : QKt w0 w X pd g bm D) (ha : QdAt X' w' pd g bm D2) (f : Frm (Own X w) w w') (hs : ∀ k, X' k → Own X w k) : QKt w0 w' X' pd g bm D2 := by
  have hz := h.frm.size
  have hl : ∀ k, Own X w k → New w0 k := fun k hk => by
    rcases hk with q | q
    · exact h.low k q
    · exact Nat.le_trans hz q
  exact ⟨ha, h.frm.trans (f.mono hl), fun k hk => hl k (hs k hk)⟩
end
def KDec (w0 w : World) (X : Nat → Prop) (pd g bm : Nat) (R : (List Fld × Nat) × Qd) (e : Ending) (w' : World) : Prop :=
  ∃ (X' : Nat → Prop) (A : Option Addr) (c : Nat), QKt w0 w' X' pd g bm R.2 ∧ e = .returned (.tuple #[.slice A R.1.1.length c, .int .i64 (R.1.2 : Int)]) ∧ (R.1.1 ≠ [] → QKept w' X' A (fvs R.1.1)) ∧ Rd w' A (fvs R.1.1) ∧ Frm (Own X w) w w' ∧ ∀ k, X' k → Own X w k
theorem kqdec {w0 w : World} {X : Nat → Prop} {pd g bm : Nat} {D : Qd} (h : QKt w0 w X pd g bm D) (s : Nat) (b : Bytes) (A : Option Addr) (c : Nat) (hR : Rd w A (bvs b)) (hc : b.length ≤ c) (hl : b.length ≤ 1099511627776) (hfar : ∀ k, M.blk A = some k → ¬ X k ∧ k < w.heap.size) (hs : s ≤ 4611686018427387903) (ho : D.out.length ≤ 1099511627000) :
    Calls Try.prog 26 #[.pointer (some ⟨pd, 0, none⟩), .int .u64 (s : Int), .slice A b.length c] w (KDec w0 w X pd g bm (D.decode s b)) := by
  refine (qdecode_any h.at_ s b A c hR hc hl hfar hs ho).mono ?_
  rintro e w' ⟨X', A2, c2, h1, h2, h3, h4, h5⟩
  refine ⟨X', A2, c2, h.step h3 h4 h5, h1, fun hne => ⟨h2.rd, fun k hk => ⟨(h2.inM k hk).2, ?_⟩⟩, h2.rd, h4, h5⟩
  obtain ⟨g9, o9, rfl, h9⟩ := h2.rd.lt (by intro q; have := congrArg List.length q; rw [fvs_length] at this; simp at this; exact hne (List.eq_nil_of_length_eq_zero (by omega)))
  cases hk
  exact h9
theorem kqdec2 {w0 w : World} {X : Nat → Prop} {pd g bm : Nat} {D : Qd} (h : QKt w0 w X pd g bm D) (s : Nat) (b : Bytes) (arr : Array Value) (ha : (bvs b).toArray = arr) (n : Nat) (hb : b.length = n) (hl : b.length ≤ 1099511627776) (hs : s ≤ 4611686018427387903) (ho : D.out.length ≤ 1099511627000) :
    Calls Try.prog 26 #[.pointer (some ⟨pd, 0, none⟩), .int .u64 (s : Int), .slice (some ⟨w.heap.size, 0, none⟩) n n] (w.alloc (Obj.cells arr 5)) (KDec w0 (w.alloc (Obj.cells arr 5)) X pd g bm (D.decode s b)) := by
  subst hb ha
  have hF : Frm (New w) w (w.alloc (Obj.cells (bvs b).toArray 5)) := (Frm.refl _ _).alloc Up.new _
  refine kqdec (h.fresh hF) s b _ _ (Rd.new w (bvs b).toArray 5) (Nat.le_refl _) hl (fun k hk => ?_) hs ho
  have hk2 : w.heap.size = k := by simpa using hk
  subst hk2
  exact ⟨fun q => by have := h.at_.low _ q; omega, by simp⟩
def KFeed (w0 w : World) (X : Nat → Prop) (pd g bm : Nat) (R : Nat × Qd) (e : Ending) (w' : World) : Prop :=
  ∃ (X' : Nat → Prop), QKt w0 w' X' pd g bm R.2 ∧ e = .returned (.int .i64 (R.1 : Int)) ∧ Frm (Own X w) w w' ∧ ∀ k, X' k → Own X w k
theorem kqfeed {w0 w : World} {X : Nat → Prop} {pd g bm : Nat} {D : Qd} (h : QKt w0 w X pd g bm D) (b : Bytes) (A : Option Addr) (c : Nat) (hR : Rd w A (bvs b)) (hl : D.rest.length + b.length ≤ 1099511627776) (hn : D.t.n + D.rest.length + b.length ≤ 1152921504606846975) :
    Calls Try.prog 28 #[.pointer (some ⟨pd, 0, none⟩), .slice A b.length c] w (KFeed w0 w X pd g bm (D.feed b)) := by
  refine (qfeed_any h.at_ b A c hR hl hn).mono ?_
  rintro e w' ⟨h1, X', h3, h4, h5⟩
  exact ⟨X', h.step h3 h4 h5, h1, h4, h5⟩
theorem kqfeed2 {w0 w : World} {X : Nat → Prop} {pd g bm : Nat} {D : Qd} (h : QKt w0 w X pd g bm D) (b : Bytes) (arr : Array Value) (ha : (bvs b).toArray = arr) (n : Nat) (hb : b.length = n) (hl : D.rest.length + b.length ≤ 1099511627776) (hn : D.t.n + D.rest.length + b.length ≤ 1152921504606846975) :
    Calls Try.prog 28 #[.pointer (some ⟨pd, 0, none⟩), .slice (some ⟨w.heap.size, 0, none⟩) n n] (w.alloc (Obj.cells arr 5)) (KFeed w0 (w.alloc (Obj.cells arr 5)) X pd g bm (D.feed b)) := by
  subst hb ha
  have hF : Frm (New w) w (w.alloc (Obj.cells (bvs b).toArray 5)) := (Frm.refl _ _).alloc Up.new _
  exact kqfeed (h.fresh hF) b _ _ (Rd.new w (bvs b).toArray 5) hl hn
theorem kqsend {w0 w : World} {X : Nat → Prop} {pd g bm : Nat} {D : Qd} (h : QKt w0 w X pd g bm D) (ho : D.out.length ≤ 1099511627000) (hn : D.t.n ≤ 4611686018427387903) :
    Calls Try.prog 29 #[.pointer (some ⟨pd, 0, none⟩)] w fun e w' => ∃ (X' : Nat → Prop) (A : Option Addr) (c : Nat), QKt w0 w' X' pd g bm D.send.2 ∧ e = .returned (.slice A D.send.1.length c) ∧ QKept w' X' A (bvs D.send.1) ∧ Frm (Own X w) w w' ∧ ∀ k, X' k → Own X w k := by
  refine (qsend_any h.at_ ho hn).mono ?_
  rintro e w' ⟨X', A, c, h1, h2, h3, h4, h5, h6⟩
  exact ⟨X', A, c, h.step h4 h5 h6, h1, ⟨h2, h3⟩, h5, h6⟩
theorem kqwaiting {w0 w : World} {X : Nat → Prop} {pd g bm : Nat} {D : Qd} (h : QKt w0 w X pd g bm D) : Calls Try.prog 27 #[.pointer (some ⟨pd, 0, none⟩)] w fun e w' => e = .returned (.int .i64 (D.waits.length : Nat)) ∧ w' = w := by
  obtain ⟨S, Ar, cr, Ao, co, ents, h1⟩ := h.at_
  exact qwaiting_any h1
theorem kqtable {w0 w : World} {X : Nat → Prop} {pd g bm : Nat} {D : Qd} (h : QKt w0 w X pd g bm D) : Calls Try.prog 31 #[.pointer (some ⟨pd, 0, none⟩)] w fun e w' => e = .returned (.pointer (some ⟨g, 0, none⟩)) ∧ w' = w := by
  obtain ⟨S, Ar, cr, Ao, co, ents, h1⟩ := h.at_
  exact qtable_any h1
theorem kqcount {w0 w : World} {X : Nat → Prop} {pd g bm : Nat} {D : Qd} (h : QKt w0 w X pd g bm D) : Calls Try.prog 32 #[.pointer (some ⟨g, 0, none⟩)] w fun e w' => e = .returned (.int .u64 D.t.n) ∧ w' = w := by
  obtain ⟨S, A, c, a, b, ew, en, hT⟩ := h.at_.tab
  exact tcount_any w hT
theorem kqnew (n k : Int) (n0 : -9223372036854775808 ≤ n) (n1 : n ≤ 9223372036854775807) (k0 : -9223372036854775808 ≤ k) (k1 : k ≤ 9223372036854775807) (w0 w : World) (f : Frm (New w0) w0 w) :
    Calls Try.prog 25 #[.int .i64 n, .int .i64 k] w fun e w' => ∃ (X : Nat → Prop) (pd g bm : Nat), e = .returned (.pointer (some ⟨pd, 0, none⟩)) ∧ QKt w0 w' X pd g bm ⟨⟨[], 0, 0⟩, lim n, (max k 0).toNat, [], [], [], 0, false⟩ ∧ Frm (New w) w w' ∧ ∀ k, X k → w.heap.size ≤ k := by
  refine (qnew_any n k n0 n1 k0 k1 w).mono ?_
  rintro e w' ⟨X, pd, g, bm, h1, h2, h3, h4⟩
  exact ⟨X, pd, g, bm, h1, ⟨h2, f.then_new Up.new h3, fun k hk => Nat.le_trans f.size (h4 k hk)⟩, h3, h4⟩
end Go.Proofs.Ytdgggjeiflllhaa.M
namespace Go.Proofs.Ytdgggjeiflllhaa.M
open Go.ChangeShapes Go.WideShapes Go.ChangeAt Go.RowKit
def kqD (T : Tb) (wt : List Nat) (o : Bytes) (t : Nat) : Qd := ⟨T, 400, 1, wt, [], o, t, false⟩
def kqF1 : List Fld := [([58, 109, 101, 116, 104, 111, 100], [71, 69, 84])]
def kqF2 : List Fld := [([120], [121])]
theorem kq_1 : (kqD ⟨[], 0, 0⟩ [] [] 0).decode 0 [0, 0, 209] = ((kqF1, 0), kqD ⟨[], 0, 0⟩ [] [] 0) := by kernel_rfl
theorem kq_2 : (kqD ⟨[], 0, 0⟩ [] [] 0).decode 4 [2, 0, 128] = (([], 27), kqD ⟨[], 0, 0⟩ [4] [] 0) := by kernel_rfl
theorem kq_3 : (kqD ⟨[], 0, 0⟩ [4] [] 0).feed [63, 241, 2, 65, 120, 1, 121] = (0, kqD ⟨[([120], [121])], 1, 400⟩ [4] [] 0) := by kernel_rfl
theorem kq_4 : (kqD ⟨[([120], [121])], 1, 400⟩ [4] [] 0).decode 4 [2, 0, 128] = ((kqF2, 0), kqD ⟨[([120], [121])], 1, 400⟩ [] [132] 1) := by kernel_rfl
theorem kq_5 : (kqD ⟨[([120], [121])], 1, 400⟩ [] [132] 1).send = ([132], kqD ⟨[([120], [121])], 1, 400⟩ [] [] 1) := by kernel_rfl
set_option maxRecDepth 100000 in
set_option maxHeartbeats 4000000 in
theorem known10_any (w : World) : Calls Try.prog 24 #[] w fun e w' => e = .returned (.bool true) ∧ Frm (New w) w w' := by
  go_enter Try.func24, Try.ntmps24
  go_wp2_with (fail)
  refine (kqnew 400 1 (by omega) (by omega) (by omega) (by omega) w w (Frm.refl _ _)).mono ?_
  rintro e w1 ⟨X1, pd, g, bm, rfl, hK1, _, _⟩
  replace hK1 : QKt w w1 X1 pd g bm (kqD ⟨[], 0, 0⟩ [] [] 0) := hK1
  have HK1 := Lib.hid hK1
  clear hK1
  go_wp2_with (fail)
  have hd := kqdec2 HK1.out 0 [0, 0, 209] #[.int .u8 0, .int .u8 0, .int .u8 209] rfl 3 rfl (by simp) (by omega) (by decide)
  rw [kq_1] at hd
  refine hd.mono ?_
  rintro e w2 ⟨X2, A2, c2, hK2, rfl, hA2, _, _, _⟩
  replace hA2 := hA2 (by decide)
  rw [show kqF1.length = 1 from rfl]
  have HK2 := Lib.hid hK2
  have HA2 := Lib.hid hA2
  clear hK2 hA2
  clear hd
  go_wp2_with (fail)
  have hd := kqdec2 HK2.out 4 [2, 0, 128] #[.int .u8 2, .int .u8 0, .int .u8 128] rfl 3 rfl (by simp) (by omega) (by decide)
  rw [kq_2] at hd
  refine hd.mono ?_
  rintro e w3 ⟨X3, A3, c3, hK3, rfl, _, _, f3, s3⟩
  have hA23 := (HA2.out.fresh ((Frm.refl _ _).alloc Up.new _)).keep f3 s3
  have HK3 := Lib.hid hK3
  have HA23 := Lib.hid hA23
  clear hK3 hA23
  clear hd f3 s3
  have hw3 := fun w' (f : Frm (New w3) w3 w') => kqwaiting (HK3.out.fresh f)
  have HW3 := Lib.hid hw3
  clear hw3
  go_wp2_with (go_at_call 27; refine (HW3.out _ (Frm.refl _ _)).mono ?_; rintro e w4 ⟨rfl, hw⟩; rw [hw]; clear hw w4)
  have hd := kqfeed2 HK3.out [63, 241, 2, 65, 120, 1, 121] #[.int .u8 63, .int .u8 241, .int .u8 2, .int .u8 65, .int .u8 120, .int .u8 1, .int .u8 121] rfl 7 rfl (by decide) (by decide)
  rw [kq_3] at hd
  refine hd.mono ?_
  rintro e w4 ⟨X4, hK4, rfl, f4, s4⟩
  have hA24 := (HA23.out.fresh ((Frm.refl _ _).alloc Up.new _)).keep f4 s4
  have HK4 := Lib.hid hK4
  have HA24 := Lib.hid hA24
  clear hK4 hA24
  clear hd f4 s4
  go_wp2_with (fail)
  have hd := kqdec2 HK4.out 4 [2, 0, 128] #[.int .u8 2, .int .u8 0, .int .u8 128] rfl 3 rfl (by simp) (by omega) (by decide)
  rw [kq_4] at hd
  refine hd.mono ?_
  rintro e w5 ⟨X5, A5, c5, hK5, rfl, hA5, _, f5, s5⟩
  replace hA5 := hA5 (by decide)
  rw [show kqF2.length = 1 from rfl]
  have hA25 := (HA24.out.fresh ((Frm.refl _ _).alloc Up.new _)).keep f5 s5
  have hm1 := hA25.rd.at_ (k := 1) (by decide)
  obtain ⟨gb, off, rfl, hm1⟩ := hm1
  have hgb := World.block_lt_of_cell? _ _ hm1
  have hm1' : w5.cell? ⟨gb, off + 1, none⟩ = some (.string ⟨#[71, 69, 84]⟩) := by simpa [fvs, str, kqF1] using hm1
  simp only at hgb
  have hsd := fun w' (h : QKt w w' X5 pd g bm (kqD ⟨[([120], [121])], 1, 400⟩ [] [132] 1)) => kqsend h (by decide) (by decide)
  rw [kq_5] at hsd
  have HK5 := Lib.hid hK5
  have HA5 := Lib.hid hA5
  have HSD := Lib.hid hsd
  clear hK5 hA5 hsd
  clear hd f5 s5 hA25 hm1
  have hf6 : Frm (New w5) w5 (w5.alloc (Obj.cells #[.string ⟨#[120]⟩, .string ⟨#[121]⟩] 71)) := (Frm.refl _ _).alloc Up.new _
  have HF6 := Lib.hid hf6
  clear hf6
  go_wp2_with (first
    | (refine wpList_val rfl _ (build_fld rfl) ?_)
    | (go_at_call 17
       refine (fields_eq kqF2 _ _ _ 1 _ (HA5.out.rd.fresh HF6.out) (Rd.new _ (fvs kqF2).toArray _) (by decide)).mono ?_
       rintro e w7 ⟨rfl, n7, hw7⟩
       have HF7 : Hid (Frm (New w5) w5 w7) := by show Frm _ _ _; rw [hw7]; exact HF6.out.drewN n7
       have HK7 := Lib.hid (HK5.out.fresh HF7.out)
       clear hw7)
    | (go_at_call 29
       refine (HSD.out _ HK7.out).mono ?_
       rintro e w8 ⟨X8, A8, c8, hK8, rfl, hA8, _, _⟩
       have hcv : (convert 23 9 (.slice A8 1 c8)).run Try.prog w8 = .ok (.string ⟨#[132]⟩) w8 := run_conv (l := [132]) hA8.rd
       have HK8 := Lib.hid hK8
       have HA8 := Lib.hid hA8
       clear hK8 hA8)
    | (go_at_call 31; refine (kqtable HK8.out).mono ?_; rintro e w9 ⟨rfl, hw⟩; rw [hw]; clear hw w9)
    | (go_at_call 32; refine (kqcount HK8.out).mono ?_; rintro e w9 ⟨rfl, hw⟩; rw [hw]; clear hw w9))
  go_ret
  exact ⟨rfl, HK8.out.frm⟩
end Go.Proofs.Ytdgggjeiflllhaa.M

