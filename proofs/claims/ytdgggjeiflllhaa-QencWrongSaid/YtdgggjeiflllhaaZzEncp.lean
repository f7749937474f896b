/- Encp -/
import Derived.Test.YtdgggjeiflllhaaZzTab
import Derived.Test.YtdgggjeiflllhaaZzRnum
import Derived.StillTailTactics

namespace Go.Proofs.Ytdgggjeiflllhaa.M
open Go.ChangeShapes Go.WideShapes Go.ChangeAt Go.RowKit
def bAuth : Bytes := [97, 117, 116, 104, 111, 114, 105, 122, 97, 116, 105, 111, 110]
def bCookie : Bytes := [99, 111, 111, 107, 105, 101]
def bSetCookie : Bytes := [115, 101, 116, 45, 99, 111, 111, 107, 105, 101]
def secret (n : Bytes) : Bool := decide (n = bAuth) || (decide (n = bCookie) || decide (n = bSetCookie))
def placeS (T : Tb) (f : Fld) : Nat × Bool :=
  match h2S f, T.find f with
  | (i, ok, whole), (k, there, all) =>
    if whole then (i, true) else if all then (61 + T.n - k, true) else if ok then (i, false) else if there then (61 + T.n - k, false) else (0, false)
def oneT (T : Tb) (f : Fld) : Tb :=
  if (placeS T f).2 then T else if secret f.1 then T else if T.cap / 2 < fsize f then T else T.add f
def linesT : Tb → List Fld → Tb
  | T, [] => T
  | T, f :: r => linesT (oneT T f) r
structure En where
  t : Tb
  least : Option Nat
def En.enc (E : En) (l : List Fld) : En := ⟨linesT E.t l, none⟩
def lim (n : Int) : Nat := (min (max n 0) 4096).toNat
def En.resize (E : En) (n : Int) : En := ⟨E.t.resize (lim n), some (match E.least with | none => lim n | some m => min m (lim n))⟩
def En.new (n : Int) : En := ⟨⟨[], 0, lim n⟩, none⟩
theorem lim_le (n : Int) : lim n ≤ 4096 := by unfold lim; omega
end Go.Proofs.Ytdgggjeiflllhaa.M
namespace Go.Proofs.Ytdgggjeiflllhaa.M
open Go.ChangeShapes Go.WideShapes Go.ChangeAt Go.RowKit
set_option maxRecDepth 100000 in
set_option maxHeartbeats 1000000 in
theorem secret_any (s : Bytes) (w : World) :
    Calls Try.prog 79 #[str s] w fun e w' => e = .returned (.bool (secret s)) ∧ w' = w := by
  simp only [str]
  have HS : Hid (secret s = (decide (s = bAuth) || (decide (s = bCookie) || decide (s = bSetCookie)))) := rfl
  have e1 : (⟨s.toArray⟩ : ByteArray).toList = s := mk_toList s
  by_cases h1 : s = bAuth
  · subst h1
    go_enter Try.func79, Try.ntmps79
    go_wp2
    go_ret
    exact ⟨rfl, rfl⟩
  · by_cases h2 : s = bCookie
    · subst h2
      go_enter Try.func79, Try.ntmps79
      go_wp2
      go_ret
      exact ⟨rfl, rfl⟩
    · by_cases h3 : s = bSetCookie
      · subst h3
        go_enter Try.func79, Try.ntmps79
        go_wp2
        go_ret
        exact ⟨rfl, rfl⟩
      · have hr : secret s = false := by rw [HS.out, decide_eq_false h1, decide_eq_false h2, decide_eq_false h3]; rfl
        have HR := Lib.hid hr
        clear hr HS
        go_enter Try.func79, Try.ntmps79
        go_wp2
        go_ret
        refine ⟨ret_bool ?_, rfl⟩
        rw [HR.out]
        simp only [Bool.or_eq_false_iff, beq_eq_false_iff_ne, ne_eq]
        exact ⟨⟨h1, h2⟩, h3⟩
end Go.Proofs.Ytdgggjeiflllhaa.M
namespace Go.Proofs.Ytdgggjeiflllhaa.M
open Go.ChangeShapes Go.WideShapes Go.ChangeAt Go.RowKit
def TabS (S : Nat → Prop) (w : World) (g : Nat) (T : Tb) : Prop := ∃ A c a b ew en, TabAt S w g T.l T.n T.cap A c a b ew en
section
variable {S M : Nat → Prop} {w w' : World} {g : Nat} {T : Tb}
theorem TabS.keep (h : TabS S w g T) (f : Frm M w w') (hM : ∀ k, S k → ¬ M k) : TabS S w' g T := by
  obtain ⟨A, c, a, b, ew, en, h⟩ := h
  exact ⟨A, c, a, b, ew, en, h.keep f hM⟩
theorem TabS.fresh (h : TabS S w g T) (f : Frm (New w) w w') : TabS S w' g T := by
  obtain ⟨A, c, a, b, ew, en, h⟩ := h
  exact ⟨A, c, a, b, ew, en, h.fresh f⟩
theorem TabS.low (h : TabS S w g T) : ∀ k, S k → k < w.heap.size := by
  obtain ⟨A, c, a, b, ew, en, h⟩ := h
  exact h.low
theorem TabS.sg (h : TabS S w g T) : S g := by
  obtain ⟨A, c, a, b, ew, en, h⟩ := h
  exact h.sg
theorem TabS.nb (h : TabS S w g T) : T.l.length ≤ T.n ∧ T.n ≤ 1152921504606846976 := by
  obtain ⟨A, c, a, b, ew, en, h⟩ := h
  exact ⟨h.le, h.nb⟩
end
section
variable {S M : Nat → Prop} {w w' : World} {p g ls : Nat} {E : En} {ch : Bool}
end
end Go.Proofs.Ytdgggjeiflllhaa.M
namespace Go.Proofs.Ytdgggjeiflllhaa.M
open Go.ChangeShapes Go.WideShapes Go.ChangeAt Go.RowKit
end Go.Proofs.Ytdgggjeiflllhaa.M
namespace Go.Proofs.Ytdgggjeiflllhaa.M
open Go.ChangeShapes Go.WideShapes Go.ChangeAt Go.RowKit
theorem hgo_length : ∀ (l : List UInt8) (acc n : Nat), (hgo l acc n).length ≤ 5 * l.length + 1
  | [], _, _ => by unfold hgo; split <;> simp
  | b :: r, acc, n => by
    unfold hgo
    have h1 := emit_length 5 (acc * 2 ^ (codes.getD b.toNat (0, 0)).2 + (codes.getD b.toNat (0, 0)).1) (n + (codes.getD b.toNat (0, 0)).2)
    have h2 := hgo_length r ((acc * 2 ^ (codes.getD b.toNat (0, 0)).2 + (codes.getD b.toNat (0, 0)).1) % 2 ^ ((n + (codes.getD b.toNat (0, 0)).2) % 8)) ((n + (codes.getD b.toNat (0, 0)).2) % 8)
    simp only [List.length_append, List.length_cons]
    omega
theorem strc_le (a b k : Nat) (l : Bytes) : (strc a b k l).length ≤ 5 * l.length + 13 := by
  unfold strc
  split
  · have h1 := pfx_length a k (hlen l)
    have h2 := hgo_length l 0 0
    rw [List.length_append]
    show _ + (hgo l 0 0).length ≤ _
    omega
  · have := pfx_length b k l.length
    rw [List.length_append]; omega
theorem strb_any (l : Bytes) (A : Option Addr) (c : Nat) (s : Bytes) (w : World) (hR : Rd w A (bvs l)) (hl : l.length ≤ 1099511627000) (hs : s.length ≤ 1099511627776) :
    Calls Try.prog 81 #[.slice A l.length c, .string ⟨s.toArray⟩] w (RetB w (l ++ strc 128 0 7 s)) :=
  str_any l A c ⟨s.toArray⟩ w hR hl (by show s.toArray.size ≤ _; simpa using hs)
theorem pfx_pos (f k v : Nat) : 0 < (pfx f k v).length := by
  unfold pfx
  split <;> simp
theorem Tb.add_cap (T : Tb) (x : Fld) : (T.add x).cap = T.cap := by
  unfold Tb.add
  split <;> rfl
theorem addS_any {S : Nat → Prop} {g : Nat} {T : Tb} (x : Fld) (F : Option Addr) (cf : Nat) (w : World)
    (h : TabS S w g T) (hR : Rd w F (fvs [x])) (hF : ∀ k, blk F = some k → ¬ S k) (hn : T.n < 1152921504606846976) (hx : fsize x ≤ 1152921504606846976) (hc : T.cap ≤ 70368744177664) :
    Calls Try.prog 122 #[.pointer (some ⟨g, 0, none⟩), .slice F 1 cf] w fun e w' => (∃ m : Int, e = .returned (.int .i64 m)) ∧
      ∃ S', TabS S' w' g (T.add x) ∧ Frm (Own S w) w w' ∧ ∀ k, S' k → Own S w k := by
  obtain ⟨A, c, a, b, ew, en, h⟩ := h
  refine (add_any x F cf w h hR hF hn hx hc).mono ?_
  rintro e w' ⟨h1, S', A', c', ew', en', h2, h3, h4⟩
  refine ⟨h1, S', ⟨A', c', a, b, ew', en', ?_⟩, h3, h4⟩
  rw [Tb.add_cap]
  exact h2
end Go.Proofs.Ytdgggjeiflllhaa.M
namespace Go.Proofs.Ytdgggjeiflllhaa.M
open Go.ChangeShapes Go.WideShapes Go.ChangeAt Go.RowKit
end Go.Proofs.Ytdgggjeiflllhaa.M
namespace Go.Proofs.Ytdgggjeiflllhaa.M
open Go.ChangeShapes Go.WideShapes Go.ChangeAt Go.RowKit
theorem aggf : Agg Try.prog 71 2 := ⟨⟨_, Try.underlying71, rfl⟩, by kernel_rfl⟩
theorem results_agg_tmp {P : Program} {T : TypeId} {n : Nat} (E : Agg P T n) {fn : Func} {p q : Tmp} (h : fn.results = #[.cell p T, .tmp q]) {tmps : Array Value} {w : World} {g : Nat} {t : TypeId} {cs : Array Value} {v : Value}
    (hp : tmps.getD p undef = .pointer (some ⟨g, 0, none⟩)) (hq : tmps.getD q undef = v) (hb : Blk w g t cs) (hn : cs.size = n) :
    (results fn tmps).run P w = .ok (.tuple #[.agg cs, v]) w := by
  obtain ⟨d, hu, hd⟩ := E.under
  have hp' : tmps[p]?.getD undef = .pointer (some ⟨g, 0, none⟩) := by simpa using hp
  have hq' : tmps[q]?.getD undef = v := by simpa using hq
  simp [results, h, hp', hq', asAddr, run_loadVar_row w g t T cs (0, 0) d hb hu (by cases d <;> first | rfl | cases hd) (by rw [E.size, hn])]
set_option maxRecDepth 100000 in
set_option maxHeartbeats 1000000 in
theorem rsecret_any (s : Bytes) (w : World) :
    Calls Try.prog 61 #[str s] w fun e w' => e = .returned (.bool (secret s)) ∧ w' = w := by
  simp only [str]
  have HS : Hid (secret s = (decide (s = bAuth) || (decide (s = bCookie) || decide (s = bSetCookie)))) := rfl
  have e1 : (⟨s.toArray⟩ : ByteArray).toList = s := mk_toList s
  by_cases h1 : s = bAuth
  · subst h1
    go_enter Try.func61, Try.ntmps61
    go_wp2
    go_ret
    exact ⟨rfl, rfl⟩
  · by_cases h2 : s = bCookie
    · subst h2
      go_enter Try.func61, Try.ntmps61
      go_wp2
      go_ret
      exact ⟨rfl, rfl⟩
    · by_cases h3 : s = bSetCookie
      · subst h3
        go_enter Try.func61, Try.ntmps61
        go_wp2
        go_ret
        exact ⟨rfl, rfl⟩
      · have hr : secret s = false := by rw [HS.out, decide_eq_false h1, decide_eq_false h2, decide_eq_false h3]; rfl
        have HR := Lib.hid hr
        clear hr HS
        go_enter Try.func61, Try.ntmps61
        go_wp2
        go_ret
        refine ⟨ret_bool ?_, rfl⟩
        rw [HR.out]
        simp only [Bool.or_eq_false_iff, beq_eq_false_iff_ne, ne_eq]
        exact ⟨⟨h1, h2⟩, h3⟩
end Go.Proofs.Ytdgggjeiflllhaa.M
namespace Go.Proofs.Ytdgggjeiflllhaa.M
open Go.ChangeShapes Go.WideShapes Go.ChangeAt Go.RowKit
end Go.Proofs.Ytdgggjeiflllhaa.M

