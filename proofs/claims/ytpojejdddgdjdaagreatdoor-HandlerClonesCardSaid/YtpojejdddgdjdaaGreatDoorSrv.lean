/- Requests as they lie, and what the document makes of a message. No condition. -/
import Derived.BigQuiet
import Derived.Deep.CutBlock
import Derived.Lib.Hide
import Derived.IntWalk
import Derived.Test.YtpojejdddgdjdaaGreatDoorSr
namespace Go.Proofs.YtpojejdddgdjdaaGreatDoor.M
open Go.ChangeShapes Go.WideShapes Go.ChangeAt Go.RowKit

/-- a request as it lies -/
structure RV where
  me : Bytes
  sc : Bytes
  au : Bytes
  pa : Bytes
  A1 : Option Addr
  c1 : Nat
  fs : List Fld
  A2 : Option Addr
  c2 : Nat
  b : Bytes
  A3 : Option Addr
  c3 : Nat
  ts : List Fld
def RV.cells (r : RV) : Array Value := #[.string ⟨r.me.toArray⟩, .string ⟨r.sc.toArray⟩, .string ⟨r.au.toArray⟩, .string ⟨r.pa.toArray⟩, .slice r.A1 r.fs.length r.c1, .slice r.A2 r.b.length r.c2, .slice r.A3 r.ts.length r.c3]
structure RIn (w : World) (r : RV) : Prop where
  r1 : Rd w r.A1 (fvs r.fs)
  r2 : Rd w r.A2 (bvs r.b)
  r3 : Rd w r.A3 (fvs r.ts)
theorem RIn.fresh {w w' : World} {r : RV} (h : RIn w r) (f : Frm (New w) w w') : RIn w' r := ⟨h.r1.fresh f, h.r2.fresh f, h.r3.fresh f⟩
/-- what it says -/
structure RQ where
  me : Bytes
  sc : Bytes
  au : Bytes
  pa : Bytes
  fs : List Fld
  b : Bytes
  ts : List Fld
def RV.q (r : RV) : RQ := ⟨r.me, r.sc, r.au, r.pa, r.fs, r.b, r.ts⟩
def RQ.nil : RQ := ⟨[], [], [], [], [], [], []⟩
def RV.nil : RV := ⟨[], [], [], [], none, 0, [], none, 0, [], none, 0, []⟩
theorem RV.nil_in (w : World) : RIn w RV.nil := ⟨Rd.nil, Rd.nil, Rd.nil⟩
def bMe : Bytes := [58, 109, 101, 116, 104, 111, 100]
def bSc : Bytes := [58, 115, 99, 104, 101, 109, 101]
def bAu : Bytes := [58, 97, 117, 116, 104, 111, 114, 105, 116, 121]
def bPa : Bytes := [58, 112, 97, 116, 104]
def bOpt : Bytes := [79, 80, 84, 73, 79, 78, 83]
def names4 : List Bytes := [bMe, bSc, bAu, bPa]
/-- method, scheme, path may be so -/
def rokV (me sc pa : Bytes) : Bool := !me.isEmpty && (!sc.isEmpty && (!pa.isEmpty && (decide (pa.head? = some 47) || (decide (pa = [42]) && decide (me = bOpt)))))
/-- its class -/
def rcls (m : MV) : Nat := if lrgM m then 2 else if okF names4 m && rokV (val (spS m.fs) bMe) (val (spS m.fs) bSc) (val (spS m.fs) bPa) then 0 else 1
/-- the request -/
def rq (m : MV) : RQ := if rcls m = 0 then ⟨val (spS m.fs) bMe, val (spS m.fs) bSc, val (spS m.fs) bAu, val (spS m.fs) bPa, spR m.fs, m.b, m.ts⟩ else RQ.nil
def RqR (w : World) (m : MV) (e : Ending) (w' : World) : Prop := ∃ r : RV, e = .returned (.tuple #[.agg r.cells, .int .i64 (rcls m : Nat)]) ∧ RIn w' r ∧ r.q = rq m ∧ Frm (New w) w w'
theorem RqR.no {w w' : World} {m : MV} {c : Nat} (hc : rcls m = c) (h0 : c ≠ 0) (f : Frm (New w) w w') : RqR w m (.returned (.tuple #[.agg RV.nil.cells, .int .i64 (c : Int)])) w' :=
  ⟨RV.nil, by rw [hc], RV.nil_in _, by unfold rq; rw [if_neg (by rw [hc]; exact h0)]; rfl, f⟩
theorem zReq : (Tryz.prog.info? 32).map (·.zero) = some (some (.agg RV.nil.cells)) := by kernel_rfl
theorem req_one (a b c d : ByteArray) (A1 A2 A3 : Option Addr) (n1 n2 n3 c1 c2 c3 : Nat) : ∀ u ∈ #[Value.string a, Value.string b, Value.string c, Value.string d, .slice A1 n1 c1, .slice A2 n2 c2, .slice A3 n3 c3].toList, u.oneCell' = true := fun u hu => by
  simp only [List.mem_cons, List.not_mem_nil, or_false] at hu
  rcases hu with rfl | rfl | rfl | rfl | rfl | rfl | rfl <;> rfl
theorem results_agg_tmp {P : Program} {T : TypeId} {n : Nat} (E : Agg P T n) {fn : Func} {p q : Tmp} (h : fn.results = #[.cell p T, .tmp q]) {tmps : Array Value} {w : World} {g : Nat} {t : TypeId} {cs : Array Value} {v : Value}
    (hp : tmps.getD p undef = .pointer (some ⟨g, 0, none⟩)) (hq : tmps.getD q undef = v) (hb : Blk w g t cs) (hn : cs.size = n) :
    (results fn tmps).run P w = .ok (.tuple #[.agg cs, v]) w := by
  obtain ⟨d, hu, hd⟩ := E.under
  have hp' : tmps[p]?.getD undef = .pointer (some ⟨g, 0, none⟩) := by simpa using hp
  have hq' : tmps[q]?.getD undef = v := by simpa using hq
  simp [results, h, hp', hq', asAddr, run_loadVar_row w g t T cs (0, 0) d hb hu (by cases d <;> first | rfl | cases hd) (by rw [E.size, hn])]
theorem Rd.keep2 {M : Nat → Prop} {w w' : World} {A : Option Addr} {xs : List Value} (h : Rd w A xs) (f : Frm M w w') (hf : xs ≠ [] → Far M A) : Rd w' A xs := by
  by_cases hx : xs = []
  · subst hx; exact Rd.nil
  · exact h.keep f (hf hx)
theorem Rd.blk_lt {w : World} {A : Option Addr} {xs : List Value} {k : Nat} (h : Rd w A xs) (hn : xs ≠ []) (hk : blk A = some k) : k < w.heap.size := by
  obtain ⟨g, off, rfl, hl⟩ := h.lt hn
  simp only [blk_some, Option.some.injEq] at hk
  omega
/-- a block of seven cells: each of them; all of them written anew -/
theorem Blk.all7 {w : World} {g : Nat} {t : TypeId} {a b c d e f h : Value} (H : Blk w g t #[a, b, c, d, e, f, h]) :
    (w.cell? ⟨g, 0, none⟩ = some a ∧ w.cell? ⟨g, 1, none⟩ = some b ∧ w.cell? ⟨g, 2, none⟩ = some c ∧ w.cell? ⟨g, 3, none⟩ = some d ∧ w.cell? ⟨g, 4, none⟩ = some e ∧ w.cell? ⟨g, 5, none⟩ = some f ∧ w.cell? ⟨g, 6, none⟩ = some h) ∧
    (w.frozen? ⟨g, 0, none⟩ = false ∧ w.frozen? ⟨g, 1, none⟩ = false ∧ w.frozen? ⟨g, 2, none⟩ = false ∧ w.frozen? ⟨g, 3, none⟩ = false ∧ w.frozen? ⟨g, 4, none⟩ = false ∧ w.frozen? ⟨g, 5, none⟩ = false ∧ w.frozen? ⟨g, 6, none⟩ = false) :=
  ⟨⟨H.cell 0, H.cell 1, H.cell 2, H.cell 3, H.cell 4, H.cell 5, H.cell 6⟩, ⟨H.frozen 0, H.frozen 1, H.frozen 2, H.frozen 3, H.frozen 4, H.frozen 5, H.frozen 6⟩⟩
theorem Blk.put7 {w : World} {g : Nat} {t : TypeId} {a b c d e f h : Value} (H : Blk w g t #[a, b, c, d, e, f, h]) (a' b' c' d' e' f' h' : Value) :
    Blk (((((((w.setCell ⟨g, 0, none⟩ a').setCell ⟨g, 1, none⟩ b').setCell ⟨g, 2, none⟩ c').setCell ⟨g, 3, none⟩ d').setCell ⟨g, 4, none⟩ e').setCell ⟨g, 5, none⟩ f').setCell ⟨g, 6, none⟩ h') g t #[a', b', c', d', e', f', h'] ∧
    Frm (· = g) w (((((((w.setCell ⟨g, 0, none⟩ a').setCell ⟨g, 1, none⟩ b').setCell ⟨g, 2, none⟩ c').setCell ⟨g, 3, none⟩ d').setCell ⟨g, 4, none⟩ e').setCell ⟨g, 5, none⟩ f').setCell ⟨g, 6, none⟩ h') :=
by
  have k0 := H.set_ 0 a'
  have f0 : Frm (· = g) w (w.setCell ⟨g, 0, none⟩ a') := Frm.setCell (M := fun q => q = g) (Frm.refl _ w) (p := ⟨g, 0, none⟩) rfl _
  simp only [List.setIfInBounds_toArray, List.set_cons_zero] at k0
  generalize w.setCell ⟨g, 0, none⟩ a' = w0 at *
  have k1 := k0.set_ 1 b'
  have f1 := f0.setCell (p := ⟨g, 1, none⟩) rfl b'
  simp only [List.setIfInBounds_toArray, List.set_cons_zero, List.set_cons_succ] at k1
  generalize w0.setCell ⟨g, 1, none⟩ b' = w1 at *
  have k2 := k1.set_ 2 c'
  have f2 := f1.setCell (p := ⟨g, 2, none⟩) rfl c'
  simp only [List.setIfInBounds_toArray, List.set_cons_zero, List.set_cons_succ] at k2
  generalize w1.setCell ⟨g, 2, none⟩ c' = w2 at *
  have k3 := k2.set_ 3 d'
  have f3 := f2.setCell (p := ⟨g, 3, none⟩) rfl d'
  simp only [List.setIfInBounds_toArray, List.set_cons_zero, List.set_cons_succ] at k3
  generalize w2.setCell ⟨g, 3, none⟩ d' = w3 at *
  have k4 := k3.set_ 4 e'
  have f4 := f3.setCell (p := ⟨g, 4, none⟩) rfl e'
  simp only [List.setIfInBounds_toArray, List.set_cons_zero, List.set_cons_succ] at k4
  generalize w3.setCell ⟨g, 4, none⟩ e' = w4 at *
  have k5 := k4.set_ 5 f'
  have f5 := f4.setCell (p := ⟨g, 5, none⟩) rfl f'
  simp only [List.setIfInBounds_toArray, List.set_cons_zero, List.set_cons_succ] at k5
  generalize w4.setCell ⟨g, 5, none⟩ f' = w5 at *
  have k6 := k5.set_ 6 h'
  have f6 := f5.setCell (p := ⟨g, 6, none⟩) rfl h'
  simp only [List.setIfInBounds_toArray, List.set_cons_zero, List.set_cons_succ] at k6
  exact ⟨k6, f6⟩
/-- where a name's value lies -/
def pl4 : List (Bytes × Nat) := [(bMe, 0), (bSc, 1), (bAu, 2), (bPa, 3)]
def cells4 (A2 : Option Addr) (n2 c2 : Nat) (A3 : Option Addr) (n3 c3 : Nat) (S : List Fld) : Array Value :=
  #[str (val S bMe), str (val S bSc), str (val S bAu), str (val S bPa), .slice none 0 0, .slice A2 n2 c2, .slice A3 n3 c3]
theorem pl4_names : pl4.map Prod.fst = names4 := rfl
theorem cells4_more (A2 : Option Addr) (n2 c2 : Nat) (A3 : Option Addr) (n3 c3 : Nat) (S : List Fld) (f : Fld) (i : Nat) (hi : (f.1, i) ∈ pl4) (hn : f.1 ∉ S.map Prod.fst) :
    cells4 A2 n2 c2 A3 n3 c3 (S ++ [f]) = (cells4 A2 n2 c2 A3 n3 c3 S).setIfInBounds i (str f.2) ∧ i < (cells4 A2 n2 c2 A3 n3 c3 S).size := by
  unfold cells4
  simp only [val_snoc S f _ hn]
  simp only [pl4, List.mem_cons, List.not_mem_nil, or_false, Prod.mk.injEq] at hi
  rcases hi with ⟨h, rfl⟩ | ⟨h, rfl⟩ | ⟨h, rfl⟩ | ⟨h, rfl⟩ <;> rw [h] <;> exact ⟨rfl, by simp⟩
end Go.Proofs.YtpojejdddgdjdaaGreatDoor.M
