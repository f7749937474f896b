/- QdecSends: plain, and what the walk needs. No condition. -/
import Derived.BigQuiet
import Derived.IntWalk
import Derived.Deep.CutBlock
import Derived.Lib.Hide
import Derived.Test.YtdgggjeiflllhaaQu
namespace Go.Proofs.Ytdgggjeiflllhaa.M
open Go.ChangeShapes Go.WideShapes Go.ChangeAt Go.RowKit

/-- the document's prefix of a section -/
theorem rqenc_nat (c cap : Nat) (hc : c ≤ 18446744073709551615) (hcap : cap ≤ 4096) (w : World) : Calls Try.prog 70 #[.int .u64 (c : Int), .int .i64 (cap : Int)] w fun e w' => e = .returned (.int .u64 (encQ c cap : Nat)) ∧ w = w' := by
  have h := rqenc_any (c : Int) (cap : Int) w (by omega) (by omega) (by omega) (by omega)
  rw [qenc_nat] at h
  exact h
set_option maxRecDepth 100000 in
set_option maxHeartbeats 2000000 in
theorem rqpre_any (M : Nat → Prop) (l : Bytes) (A : Option Addr) (c count base cap : Nat) (w : World) (hu : Up M w) (hA : App M w 5 1 A l.length c (bvs l)) (hl : l.length ≤ 1099511627776) (h1 : count ≤ 4611686018427387903) (h2 : base ≤ 4611686018427387903) (hcap : cap ≤ 4096) :
    Calls Try.prog 36 #[.slice A l.length c, .int .u64 (count : Int), .int .u64 (base : Int), .int .i64 (cap : Int)] w (RetA M w (l ++ prefQ count base cap)) := by
  have he := fun w' => rqenc_nat count cap (by omega) hcap w'
  have hel := encQ_le count cap hcap
  have hp := rprefix_nat M l A c 0 8 (encQ count cap) w hu hA (by omega) (by decide) (by decide) (by decide) (by omega)
  have hq : ∀ (A1 : Option Addr) (c1 f v : Nat) (w1 : World), f ≤ 255 → v ≤ 4611686018427387903 → Up M w1 → App M w1 5 1 A1 (l ++ pfx 0 8 (encQ count cap)).length c1 (bvs (l ++ pfx 0 8 (encQ count cap))) → Calls Try.prog 35 #[.slice A1 (l ++ pfx 0 8 (encQ count cap)).length c1, .int .u8 f, .int .i64 7, .int .u64 v] w1 (RetA M w1 ((l ++ pfx 0 8 (encQ count cap)) ++ pfx f 7 v)) := fun A1 c1 f v w1 hf hv hu1 h => rprefix_nat M _ A1 c1 f 7 v w1 hu1 h (by rw [List.length_append]; have := pfx_length 0 8 (encQ count cap); omega) hf (by decide) (by decide) (by omega)
  have hres : l ++ prefQ count base cap = (l ++ pfx 0 8 (encQ count cap)) ++ (if count ≤ base then pfx 0 7 (base - count) else pfx 128 7 (count - base - 1)) := by unfold prefQ; rw [List.append_assoc]
  rw [hres]
  generalize encQ count cap = en at *
  generalize l ++ pfx 0 8 en = l1 at *
  clear hres hel
  by_cases hb : count ≤ base
  · have hbi : (count : Int) ≤ (base : Int) := by omega
    rw [if_pos hb]
    obtain ⟨v, hv⟩ : ∃ v, v = base - count := ⟨_, rfl⟩
    have hw1 : IntKind.u64.wrap ((base : Int) - (count : Int)) = (v : Int) := by
      rw [show ((base : Int) - (count : Int)) = (v : Int) by omega]
      exact IntWalk.u64_in _ (by omega)
    have hq2 := fun (A1 : Option Addr) (c1 : Nat) (w1 : World) hu1 h => hq A1 c1 0 v w1 (by decide) (by omega) hu1 h
    rw [← hv]
    have HE := Lib.hid he
    have HP := Lib.hid hp
    have HV := Lib.hid hv
    have HQ2 := Lib.hid hq2
    have HU := Lib.hid hu
    clear he hp hv hq2 hu
    clear hq
    go_enter Try.func36, Try.ntmps36
    go_upto_region 2 with (first
      | (go_at_call 70; refine (HE.out _).mono ?_; rintro e1 w1 ⟨rfl, hw⟩; rw [← hw]; clear hw w1)
      | (go_at_call 35; refine HP.out.mono ?_; rintro e2 w2 ⟨A2, c2, rfl, hA2, hF2⟩))
    go_wp2_with (go_at_call 35; refine (HQ2.out A2 c2 w2 (HU.out.of hF2.size) hA2).mono ?_; rintro e3 w3 ⟨A3, c3, rfl, hA3, hF3⟩)
    go_ret
    exact ⟨A3, c3, by rw [List.length_append]; rfl, hA3, hF2.trans hF3⟩
  · have hbi : ¬ (count : Int) ≤ (base : Int) := by omega
    rw [if_neg hb]
    obtain ⟨v0, hv0⟩ : ∃ v0, v0 = count - base := ⟨_, rfl⟩
    obtain ⟨v, hv⟩ : ∃ v, v = count - base - 1 := ⟨_, rfl⟩
    have hw1 : IntKind.u64.wrap ((count : Int) - (base : Int)) = (v0 : Int) := by
      rw [show ((count : Int) - (base : Int)) = (v0 : Int) by omega]
      exact IntWalk.u64_in _ (by omega)
    have hw2 : IntKind.u64.wrap ((v0 : Int) - 1) = (v : Int) := by
      rw [show ((v0 : Int) - 1) = (v : Int) by omega]
      exact IntWalk.u64_in _ (by omega)
    have hq2 := fun (A1 : Option Addr) (c1 : Nat) (w1 : World) hu1 h => hq A1 c1 128 v w1 (by decide) (by omega) hu1 h
    rw [← hv]
    have HE := Lib.hid he
    have HP := Lib.hid hp
    have HV := Lib.hid hv
    have HV0 := Lib.hid hv0
    have HQ2 := Lib.hid hq2
    have HU := Lib.hid hu
    clear he hp hv hv0 hq2 hu
    clear hq
    go_enter Try.func36, Try.ntmps36
    go_upto_region 2 with (first
      | (go_at_call 70; refine (HE.out _).mono ?_; rintro e1 w1 ⟨rfl, hw⟩; rw [← hw]; clear hw w1)
      | (go_at_call 35; refine HP.out.mono ?_; rintro e2 w2 ⟨A2, c2, rfl, hA2, hF2⟩))
    go_wp2_with (go_at_call 35; refine (HQ2.out A2 c2 w2 (HU.out.of hF2.size) hA2).mono ?_; rintro e3 w3 ⟨A3, c3, rfl, hA3, hF3⟩)
    go_ret
    exact ⟨A3, c3, by rw [List.length_append]; rfl, hA3, hF2.trans hF3⟩

/-- a row that lies apart from a decoder -/
def Apart (W : World) (X : Nat → Prop) (k : Nat) : Prop := New W k ∧ ¬ X k
theorem Apart.up {W w : World} {X : Nat → Prop} {pd g bm : Nat} {D : Qd} (h : QKt W w X pd g bm D) : Up (Apart W X) w := fun k hk => ⟨Nat.le_trans h.frm.size hk, fun q => by have := h.at_.low k q; omega⟩
theorem App.past {W w w' : World} {X X' : Nat → Prop} {e size n c : Nat} {A : Option Addr} {xs : List Value} (h : App (Apart W X) w e size A n c xs) (ha : A = none ∨ 0 < c) (f : Frm (Own X w) w w') (hs : ∀ k, X' k → Own X w k) : App (Apart W X') w' e size A n c xs := by
  have h1 := h.freshx (N := X) f (fun k hk => hk.2)
  have hold : ∀ k, M.blk A = some k → ¬ X' k := fun k hk q => by
    rcases ha with rfl | ha
    · cases hk
    · obtain ⟨g, off, cur, e1, e2, _, _⟩ := h.own ha
      subst e1
      have hkg : g = k := by simpa using hk
      subst hkg
      have hg := (Array.getElem?_eq_some_iff.1 e2).1
      rcases hs _ q with q | q
      · exact (h.inM _ rfl).2 q
      · omega
  exact { h1 with
    inM := fun k hk => ⟨(h.inM k hk).1, hold k hk⟩
    own := fun hn => by
      obtain ⟨g, off, cur, a, b, d, m⟩ := h1.own hn
      exact ⟨g, off, cur, a, b, d, m.1, hold g (by rw [a]; rfl)⟩ }
theorem QKt.apart {W w w' : World} {X : Nat → Prop} {pd g bm : Nat} {D : Qd} (h : QKt W w X pd g bm D) (f : Frm (Apart W X) w w') : QKt W w' X pd g bm D :=
  ⟨h.at_.keep f (fun _ hk q => q.2 hk), h.frm.trans (f.mono (fun _ hk => hk.1)), h.low⟩
theorem App.gone {W w : World} {X : Nat → Prop} {e size n c : Nat} {A : Option Addr} {xs : List Value} (h : App (Apart W X) w e size A n c xs) (hc : 0 < c) : ∀ k, M.blk A = some k → ¬ X k ∧ k < w.heap.size := fun k hk => by
  obtain ⟨g, off, cur, e1, e2, _, _⟩ := h.own hc
  subst e1
  have hkg : g = k := by simpa using hk
  subst hkg
  exact ⟨(h.inM _ rfl).2, (Array.getElem?_eq_some_iff.1 e2).1⟩
theorem run_convo {o : Oper} {a : Act} {w : World} {x : Operand} {A : Option Addr} {l : Bytes} {c : Nat} (ho : o.op = .convert 23 9 x) (hx : a.eval x = .slice A l.length c) (hR : Rd w A (bvs l)) : (execOp a.eval o).run Try.prog w = .ok (.value (str l)) w := by
  unfold execOp
  rw [ho]
  simp only [hx, Sem.run_bind, run_conv hR, Result.andThen_ok, Sem.run_pure]

def sT (N : Nat) : Tb := ⟨(List.range N).map (fun i => ([UInt8.ofNat (97 + i)], [])), N, 4096⟩
def sBi (N : Nat) : Bytes := (List.range N).flatMap (fun i => [65, UInt8.ofNat (97 + i), 0])
def sB (N : Nat) : Bytes := pfx 32 5 4096 ++ sBi N
def sD (N : Nat) (o : Bytes) (t : Nat) : Qd := ⟨sT N, 4096, 4, [], [], o, t, false⟩
theorem sBi_succ (N : Nat) : sBi (N + 1) = sBi N ++ [65, UInt8.ofNat (97 + N), 0] := by unfold sBi; rw [List.range_succ, List.flatMap_append]; rfl
theorem s_feed (N : Nat) (h : N < 6) : (⟨⟨[], 0, 0⟩, 4096, 4, [], [], [], 0, false⟩ : Qd).feed (sB N) = (0, sD N [] 0) := by
  have : N = 0 ∨ N = 1 ∨ N = 2 ∨ N = 3 ∨ N = 4 ∨ N = 5 := by omega
  rcases this with rfl | rfl | rfl | rfl | rfl | rfl <;> (show _ = _; kernel_rfl)
theorem s_rpf (N c : Nat) (h : N < 6) (h1 : 1 ≤ c) (h2 : c ≤ N) : rpfQ (prefQ c c 4096 ++ [128]) N 4096 = (c, c, 2, 0) := by
  have : N = 1 ∨ N = 2 ∨ N = 3 ∨ N = 4 ∨ N = 5 := by omega
  have hc : c = 1 ∨ c = 2 ∨ c = 3 ∨ c = 4 ∨ c = 5 := by omega
  rcases this with rfl | rfl | rfl | rfl | rfl <;> rcases hc with rfl | rfl | rfl | rfl | rfl <;> first | omega | (show _ = _; kernel_rfl)
theorem s_drop (c : Nat) (h1 : 1 ≤ c) (h2 : c ≤ 5) : (prefQ c c 4096 ++ [128]).drop 2 = [128] := by
  have hc : c = 1 ∨ c = 2 ∨ c = 3 ∨ c = 4 ∨ c = 5 := by omega
  rcases hc with rfl | rfl | rfl | rfl | rfl <;> (show _ = _; kernel_rfl)
theorem s_lines (N c : Nat) (h : N < 6) (h1 : 1 ≤ c) (h2 : c ≤ N) : linesQ (sT N) c c ([128] : Bytes).length [] [128] = some [([UInt8.ofNat (96 + c)], [])] := by
  have : N = 1 ∨ N = 2 ∨ N = 3 ∨ N = 4 ∨ N = 5 := by omega
  have hc : c = 1 ∨ c = 2 ∨ c = 3 ∨ c = 4 ∨ c = 5 := by omega
  rcases this with rfl | rfl | rfl | rfl | rfl <;> rcases hc with rfl | rfl | rfl | rfl | rfl <;> first | omega | (show _ = _; kernel_rfl)
theorem dec_ok {D : Qd} {s count base k : Nat} {b : Bytes} {l : List Fld} (hb : D.bad = false) (hr : rpfQ b D.t.n D.lim = (count, base, k, 0)) (h1 : ¬ D.t.n < count) (hl : linesQ D.t count base (b.drop k).length [] (b.drop k) = some l) :
    D.decode s b = ((l, 0), { D.forget s with out := if 0 < count then D.out ++ pfx 128 7 s else D.out, told := if 0 < count then max D.told count else D.told }) := by
  unfold Qd.decode
  rw [if_neg (by rw [hb]; simp)]
  simp only [hr]
  rw [if_neg (by simp), if_neg h1]
  simp only [hl]
theorem s_dec (N c i t : Nat) (o : Bytes) (h : N < 6) (h1 : 1 ≤ c) (h2 : c ≤ N) : (sD N o t).decode i (prefQ c c 4096 ++ [128]) = (([([UInt8.ofNat (96 + c)], [])], 0), sD N (o ++ pfx 128 7 i) (max t c)) := by
  have hd := s_drop c h1 (by omega)
  have hl := s_lines N c h h1 h2
  rw [← hd] at hl
  rw [dec_ok (D := sD N o t) (s := i) rfl (s_rpf N c h h1 h2) (show ¬ N < c by omega) hl, if_pos (by omega), if_pos (by omega)]
  rfl
theorem s_cancel (N s t : Nat) (o : Bytes) : (sD N o t).cancel s = sD N (o ++ pfx 64 6 s) t := rfl
theorem s_send (N t : Nat) (o : Bytes) (h : t ≤ N) : (sD N o t).send = (if 0 < N - t then o ++ pfx 0 6 (N - t) else o, sD N [] N) := by
  unfold Qd.send
  simp only [show (sD N o t).t.n = N from rfl, show (sD N o t).told = t from rfl, show (sD N o t).out = o from rfl]
  rw [show max t N = N by omega]
  by_cases h : t < N
  · rw [if_pos h, if_pos (by omega)]; rfl
  · rw [if_neg h, if_neg (by omega)]; rfl
end Go.Proofs.Ytdgggjeiflllhaa.M
