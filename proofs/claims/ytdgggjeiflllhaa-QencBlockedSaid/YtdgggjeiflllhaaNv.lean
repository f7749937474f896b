/- bifoldlaw9.known holds. No condition. -/
import Derived.BigQuiet
import Derived.Test.YtdgggjeiflllhaaNu
namespace Go.Proofs.Ytdgggjeiflllhaa.M
open Go.ChangeShapes Go.WideShapes Go.ChangeAt Go.RowKit

theorem kqn_enc2 {w0 w : World} {X : Nat → Prop} {pe g bm : Nat} {E : Qn} (h : QNt w0 w X pe g bm E) (s : Nat) (l : List Fld) (arr : Array Value) (ha : (fvs l).toArray = arr) (n : Nat) (hn : l.length = n) (hl : l.length ≤ 1000) (hf : ∀ f ∈ l, f.1.length + f.2.length ≤ 100000) (hnn : E.t.n + l.length ≤ 1152921504606846976) (hop : E.opn.length ≤ 1073741824) :
    Calls Try.prog 14 #[.pointer (some ⟨pe, 0, none⟩), .int .u64 (s : Int), .slice (some ⟨w.heap.size, 0, none⟩) n n] (w.alloc (Obj.cells arr 71)) (KEnc w0 (w.alloc (Obj.cells arr 71)) X pe g bm (E.enc s l)) := by
  subst hn ha
  have hF : Frm (New w) w (w.alloc (Obj.cells (fvs l).toArray 71)) := (Frm.refl _ _).alloc Up.new _
  refine kqn_enc (h.fresh hF) s l _ _ (Rd.new w (fvs l).toArray 71) (fun k hk _ e => ?_) hl hf hnn hop
  have hk2 : w.heap.size = k := by simpa using hk
  subst hk2
  exact Nat.lt_irrefl _ (h.blow _ e)
theorem kqn_feed2 {w0 w : World} {X : Nat → Prop} {pe g bm : Nat} {E : Qn} (h : QNt w0 w X pe g bm E) (b : Bytes) (arr : Array Value) (ha : (bvs b).toArray = arr) (n : Nat) (hn : b.length = n) (hlen : E.rest.length + b.length ≤ 1099511627776) :
    Calls Try.prog 18 #[.pointer (some ⟨pe, 0, none⟩), .slice (some ⟨w.heap.size, 0, none⟩) n n] (w.alloc (Obj.cells arr 5)) fun e w' => e = .returned (.int .i64 ((E.feed b).1 : Nat)) ∧ ∃ X', QNt w0 w' X' pe g bm (E.feed b).2 ∧ Frm (Own X (w.alloc (Obj.cells arr 5))) (w.alloc (Obj.cells arr 5)) w' ∧ ∀ k, X' k → Own X (w.alloc (Obj.cells arr 5)) k := by
  subst hn ha
  have hF : Frm (New w) w (w.alloc (Obj.cells (bvs b).toArray 5)) := (Frm.refl _ _).alloc Up.new _
  exact kqn_feed (h.fresh hF) b _ _ (Rd.new w (bvs b).toArray 5) hlen
def kn9E2 : Qn := ⟨⟨[([120], [121])], 1, 400⟩, 1, 0, [⟨4, 1, [0]⟩], [], true, 0⟩
def kn9E3 : Qn := ⟨⟨[([120], [121])], 1, 400⟩, 1, 1, [], [], true, 0⟩
set_option maxRecDepth 100000 in
set_option maxHeartbeats 4000000 in
theorem known9_any (w : World) : Calls Try.prog 10 #[] w fun e w' => e = .returned (.bool true) ∧ Frm (New w) w w' := by
  go_enter Try.func10, Try.ntmps10
  go_wp2_with (fail)
  refine (kqn_new 400 1 (by omega) (by omega) (by omega) (by omega) w w (Frm.refl _ _)).mono ?_
  rintro e w1 ⟨X1, pe, g, bm, rfl, hK1, _, _⟩
  replace hK1 : QNt w w1 X1 pe g bm (Qn.new 400 1) := hK1
  have HK1 := Lib.hid hK1
  clear hK1
  go_wp2_with (refine wpList_val rfl _ (build_fld rfl) ?_)
  have hd := kqn_enc2 HK1.out 0 kn9F1 #[.string ⟨#[58, 109, 101, 116, 104, 111, 100]⟩, .string ⟨#[71, 69, 84]⟩] rfl 1 rfl (by decide) (by decide) (by decide) (by decide)
  rw [kn9_1] at hd
  refine hd.mono ?_
  rintro e w2 ⟨X2, A1, c1, A2, c2, hK2, rfl, hA1, _, _, hA2, _, _, _, _, _⟩
  replace hA1 := hA1 (by decide)
  replace hA2 := hA2 (by decide)
  have HK2 := Lib.hid hK2
  have HA1 := Lib.hid hA1
  have HA2 := Lib.hid hA2
  clear hK2 hA1 hA2
  clear hd
  rw [show ([63, 241, 2] : Bytes).length = 3 from rfl, show ([0, 0, 209] : Bytes).length = 3 from rfl]
  go_wp2_with (refine wpList_val rfl _ (build_fld rfl) ?_)
  have hd := kqn_enc2 HK2.out 4 kn9F2 #[.string ⟨#[120]⟩, .string ⟨#[121]⟩] rfl 1 rfl (by decide) (by decide) (by decide) (by decide)
  rw [kn9_2] at hd
  refine hd.mono ?_
  rintro e w3 ⟨X3, A3, c3, A4, c4, hK3, rfl, _, _, _, hA4, _, _, f3, s3, _⟩
  replace hA4 := hA4 (by decide)
  replace hK3 : QNt w w3 X3 pe g bm kn9E2 := hK3
  have hA13 := (HA1.out.fresh ((Frm.refl _ _).alloc Up.new _)).keep f3 s3
  have hA23 := (HA2.out.fresh ((Frm.refl _ _).alloc Up.new _)).keep f3 s3
  have HK3 := Lib.hid hK3
  have HA4 := Lib.hid hA4
  have HA13 := Lib.hid hA13
  have HA23 := Lib.hid hA23
  clear hK3 hA4 hA13 hA23
  clear hd f3 s3 HA1 HA2
  rw [show ([65, 120, 1, 121] : Bytes).length = 4 from rfl, show ([2, 0, 128] : Bytes).length = 3 from rfl]
  go_wp2_with (fail)
  have hd := kqn_feed2 HK3.out [132] #[.int .u8 132] rfl 1 rfl (by decide)
  rw [show kn9E2.feed [132] = (0, kn9E3) from kn9_3] at hd
  refine hd.mono ?_
  rintro e w4 ⟨rfl, X4, hK4, f4, s4⟩
  have hA14 := (HA13.out.fresh ((Frm.refl _ _).alloc Up.new _)).keep f4 s4
  have hA24 := (HA23.out.fresh ((Frm.refl _ _).alloc Up.new _)).keep f4 s4
  have hA44 := (HA4.out.fresh ((Frm.refl _ _).alloc Up.new _)).keep f4 s4
  have hc1 : (convert 23 9 (.slice A1 3 c1)).run Try.prog w4 = .ok (.string ⟨#[63, 241, 2]⟩) w4 := run_conv (l := [63, 241, 2]) hA14.rd
  have hc2 : (convert 23 9 (.slice A2 3 c2)).run Try.prog w4 = .ok (.string ⟨#[0, 0, 209]⟩) w4 := run_conv (l := [0, 0, 209]) hA24.rd
  have hc4 : (convert 23 9 (.slice A4 3 c4)).run Try.prog w4 = .ok (.string ⟨#[2, 0, 128]⟩) w4 := run_conv (l := [2, 0, 128]) hA44.rd
  have HK4 := Lib.hid hK4
  clear hK4
  clear hd f4 s4 hA14 hA24 hA44 HA13 HA23 HA4 HK1 HK2 HK3
  go_wp2_with (first
    | (go_at_call 20; refine (kqn_known HK4.out).mono ?_; rintro e w9 ⟨rfl, hw⟩; rw [hw, show kn9E3.known = 1 from rfl]; clear hw w9)
    | (go_at_call 37; refine (kqn_table HK4.out).mono ?_; rintro e w9 ⟨rfl, hw⟩; rw [hw]; clear hw w9)
    | (go_at_call 38; refine (kqn_len HK4.out).mono ?_; rintro e w9 ⟨rfl, hw⟩; rw [hw, show kn9E3.t.l.length = 1 from rfl]; clear hw w9))
  go_ret
  exact ⟨rfl, HK4.out.frm⟩
end Go.Proofs.Ytdgggjeiflllhaa.M
