/- On, Pq -/
import Derived.BigQuiet
import Derived.Lib.Hide
import Derived.IntWalk
import Derived.Test.YtdgggjeiflllhaaZyOc
import Derived.Test.YtdgggjeiflllhaaZyCap
import Derived.Test.YtdgggjeiflllhaaZyNo
import Derived.Deep.CutBlock
import Derived.Deep.LoopGhost
import Derived.Below
import Derived.Test.YtdgggjeiflllhaaZyPo
import Derived.Test.YtdgggjeiflllhaaZyQu
import Derived.Test.YtdgggjeiflllhaaZyNu
import Derived.Test.YtdgggjeiflllhaaZyOe
import Derived.Test.YtdgggjeiflllhaaZyOg

namespace Go.Proofs.Ytdgggjeiflllhaa.M
open Go.ChangeShapes Go.WideShapes Go.ChangeAt Go.RowKit
def OqNew (w : World) (c b : Nat) (e : Ending) (w' : World) : Prop := ∃ (X : Nat → Prop) (pe g : Nat) (S : Nat → Prop), e = .returned (.pointer (some ⟨pe, 0, none⟩)) ∧ OnM X w' pe g S none 0 [] none 0 (Qn.new c b) ∧ Frm (New w) w w' ∧ ∀ k, X k → w.heap.size ≤ k
theorem onew_end {S : Nat → Prop} {w w2 : World} {g c b : Nat} {v : Int} (hT : RTabAt S w2 g [] 0 c none 0) (hF : Frm (New w) w w2) (hS : ∀ k, S k → w.heap.size ≤ k) (hv : v = (b : Int)) (hle : c ≤ 4096) (hbl : b ≤ 9223372036854775807) :
    OqNew w c b (.returned (.pointer (some ⟨w2.heap.size, 0, none⟩))) (w2.alloc (.cells #[.pointer (some ⟨g, 0, none⟩), .int .i64 v, .int .u64 0, .slice none 0 0, .slice none 0 0, .int .i64 0, .bool false] 51)) := by
  subst hv
  have hF2 : Frm (New w2) w2 (w2.alloc (.cells #[.pointer (some ⟨g, 0, none⟩), .int .i64 (b : Int), .int .u64 0, .slice none 0 0, .slice none 0 0, .int .i64 0, .bool false] 51)) := (Frm.refl _ _).alloc Up.new _
  have hB := Blk.new w2 51 #[.pointer (some ⟨g, 0, none⟩), .int .i64 (b : Int), .int .u64 0, .slice none 0 0, .slice none 0 0, .int .i64 0, .bool false]
  have hlow := hT.low
  have hT2 := hT.fresh hF2
  refine ⟨fun k => S k ∨ k = w2.heap.size, w2.heap.size, g, S, rfl, ?_, hF.then_new Up.new hF2, fun k hk => ?_⟩
  · exact {
      blk := hB
      tab := ⟨none, 0, hT2⟩
      opn := App.none_, oc := Nat.le_refl _, om := Nat.zero_le _, same := rfl
      use_ := fun y hy => by cases hy
      rest := App.none_, rc := Nat.le_refl _, rm := Nat.zero_le _
      low := fun k hk => by
        rcases hk with hk | hk
        · exact Nat.lt_of_lt_of_le (hlow k hk) hF2.size
        · exact hk ▸ hB.lt
      xp := .inr rfl, xs := fun k hk => .inl hk
      ps := fun e => Nat.lt_irrefl _ (hlow _ e)
      ro := fun k hk => by cases hk
      rr := fun k hk => by cases hk
      ru := fun y hy => by cases hy
      ok := ⟨Nat.le_refl _, Nat.zero_le _⟩
      cap := hle, nb := Nat.zero_le _, kn := Nat.le_refl _, ctn := fun o ho => (by cases ho), ol := Nat.zero_le _, bl := hbl, rl := Nat.zero_le _ }
  · rcases hk with hk | hk
    · exact hS k hk
    · exact hk ▸ hF.size
set_option maxRecDepth 100000 in
set_option maxHeartbeats 1000000 in
theorem onew_any (n k : Int) (n0 : -9223372036854775808 ≤ n) (n1 : n ≤ 9223372036854775807) (k0 : -9223372036854775808 ≤ k) (k1 : k ≤ 9223372036854775807) (w : World) :
    Calls Try.prog 21 #[.int .i64 n, .int .i64 k] w (OqNew w (lim n) (max k 0).toNat) := by
  have hm : ((max k 0).toNat : Int) = max k 0 := by omega
  have hle := lim_le n
  have hbl : (max k 0).toNat ≤ 9223372036854775807 := by omega
  have hcl := fun w' => clamp8_any n n0 n1 w'
  generalize lim n = c at *
  generalize (max k 0).toNat = b at *
  have hnw := fun w' => rtnew_any c (by omega) w'
  have HM := Lib.hid hm
  have HLE := Lib.hid hle
  have HNW := Lib.hid hnw
  have HCL := Lib.hid hcl
  have HBL := Lib.hid hbl
  clear hm hle hnw hcl hbl
  go_enter Try.func21, Try.ntmps21
  go_wp2_with (fail)
  refine (HCL.out w).mono ?_
  rintro e w3 ⟨rfl, hw3⟩
  rw [hw3]
  clear hw3 w3
  go_wp2_with (fail)
  refine (HNW.out w).mono ?_
  rintro e w2 ⟨S, g, rfl, hT, hF, hS⟩
  have HT := Lib.hid hT
  have HF := Lib.hid hF
  have HS := Lib.hid hS
  clear hT hF hS
  go_wp2_with (fail)
  all_goals go_ret
  all_goals
    refine onew_end HT.out HF.out HS.out ?_ HLE.out HBL.out
    have := HM.out
    omega
end Go.Proofs.Ytdgggjeiflllhaa.M
namespace Go.Proofs.Ytdgggjeiflllhaa.M
open Go.ChangeShapes Go.WideShapes Go.ChangeAt Go.RowKit
theorem OrdI.start : OrdI (Qn.new 4096 9) [] [] :=
  { err := rfl, rest := rfl, kn := rfl, cap := rfl, ok := ⟨Nat.le_refl _, Nat.zero_le _⟩, fresh := fun _ => rfl, bg := fun e => absurd rfl e, fd := fun _ => rfl, n := Nat.le_refl _, cl := Nat.zero_le _, li := fun x hx => (by cases hx), sm := fun x hx => (by cases hx), op := rfl }
theorem sbE : Elem Try.prog 55 23 1 24 :=
  ⟨by kernel_rfl, by
    have h : (Try.prog.info? 23).map (fun i => (i.zero, i.size, i.bytes)) = some (some (.slice none 0 0), 1, 24) := by kernel_rfl
    obtain ⟨i, hi, hz, hs, hb⟩ := info_parts h
    exact ⟨i, _, hi, hz, hs, hb, rfl⟩, by omega, by omega⟩
theorem sec_byte {w : World} {A : Option Addr} (x : Nat × List Lq) (h : x.1 ≤ 36) (hR : Rd w A (bvs (secB x))) : ∃ g o, A = some ⟨g, o, none⟩ ∧ w.cell? ⟨g, o, none⟩ = some (.int .u8 (((if 0 < x.1 then x.1 + 1 else 0 : Nat)) : Int)) ∧ g < w.heap.size ∧ 0 < (secB x).length := by
  obtain ⟨h1, h2⟩ := secB_head x h
  have h3 : 0 < (secB x).length := List.length_pos_iff.2 h1
  obtain ⟨g, o, hA, hc⟩ := hR.at_ (k := 0) (by rw [bvs_length]; exact h3)
  have h4 := World.block_lt_of_cell? _ _ hc
  refine ⟨g, o, hA, ?_, h4, h3⟩
  rw [Nat.add_zero] at hc
  rw [hc, ← h2]
  generalize secB x = l at *
  cases l with
  | nil => exact absurd rfl h1
  | cons a r => rfl
structure Kp (w0 w : World) (X Y : Nat → Prop) (A : Option Addr) (xs : List Value) : Prop where
  rd : Rd w A xs
  far : ∀ k, M.blk A = some k → k < w.heap.size ∧ ¬ X k ∧ ¬ Y k ∧ w0.heap.size ≤ k
structure DD (w0 w : World) (X : Nat → Prop) (pd g bm : Nat) (D : Qd) (Y : Nat → Prop) (po g2 : Nat) (F : Qn) : Prop where
  d : QKt w0 w X pd g bm D
  o : ∃ (S : Nat → Prop) (Ao : Option Addr) (co : Nat) (l : List Ou) (Ar : Option Addr) (cr : Nat), OnM Y w po g2 S Ao co l Ar cr F
  low : ∀ k, Y k → w0.heap.size ≤ k
  dis : ∀ k, X k → ¬ Y k
structure Wd (w0 w : World) (X Y : Nat → Prop) (Ai : Option Addr) (ci : Nat) (ins : Bytes) (As : Option Addr) (cs : Nat) (S : List (Sl UInt8)) : Prop where
  ki : Kp w0 w X Y Ai (bvs ins)
  ic : ins.length ≤ ci
  ks : Kp w0 w X Y As (S.flatMap Sl.cells)
  each : ∀ s ∈ S, Kp w0 w X Y s.A (bvs s.l) ∧ s.l.length ≤ s.c
structure Wa (w0 w : World) (X Y : Nat → Prop) (Ai : Option Addr) (ci : Nat) (ins : Bytes) (As : Option Addr) (cs : Nat) (S : List (Sl UInt8)) : Prop where
  wd : Wd w0 w X Y Ai ci ins As cs S
  ia : App (fun k => M.blk Ai = some k ∨ New w k) w 5 1 Ai ins.length ci (bvs ins)
  sa : App (fun k => M.blk As = some k ∨ New w k) w 23 1 As S.length cs (S.flatMap Sl.cells)
  ap : ∀ k, M.blk Ai = some k → M.blk As ≠ some k
  ae : ∀ s ∈ S, ∀ k, M.blk s.A = some k → M.blk Ai ≠ some k ∧ M.blk As ≠ some k
section
variable {w0 w w' : World} {X X' Y Y' N : Nat → Prop} {pd g bm po g2 ci cs c3 : Nat} {D D' : Qd} {F F' : Qn} {A A3 Ai As : Option Addr} {xs : List Value} {ins a b : Bytes} {S : List (Sl UInt8)}
theorem Kp.keep (h : Kp w0 w X Y A xs) (f : Frm N w w') (hN : ∀ k, M.blk A = some k → ¬ N k) : Kp w0 w' X Y A xs :=
  ⟨h.rd.keep f hN, fun k hk => ⟨Nat.lt_of_lt_of_le (h.far k hk).1 f.size, (h.far k hk).2⟩⟩
theorem Kp.fresh (h : Kp w0 w X Y A xs) (f : Frm (New w) w w') : Kp w0 w' X Y A xs := h.keep f (fun k hk e => by have := (h.far k hk).1; have e : w.heap.size ≤ k := e; omega)
theorem Kp.stepX (h : Kp w0 w X Y A xs) (f : Frm (Own X w) w w') (hs : ∀ k, X' k → Own X w k) : Kp w0 w' X' Y A xs := by
  have hno : ∀ k, M.blk A = some k → ¬ Own X w k := fun k hk e => by
    rcases e with e | e
    · exact (h.far k hk).2.1 e
    · have := (h.far k hk).1; have e : w.heap.size ≤ k := e; omega
  have h2 := h.keep f hno
  exact ⟨h2.rd, fun k hk => ⟨(h2.far k hk).1, fun e => hno k hk (hs k e), (h2.far k hk).2.2⟩⟩
theorem Kp.stepY (h : Kp w0 w X Y A xs) (f : Frm (Own Y w) w w') (hs : ∀ k, Y' k → Own Y w k) : Kp w0 w' X Y' A xs := by
  have hno : ∀ k, M.blk A = some k → ¬ Own Y w k := fun k hk e => by
    rcases e with e | e
    · exact (h.far k hk).2.2.1 e
    · have := (h.far k hk).1; have e : w.heap.size ≤ k := e; omega
  have h2 := h.keep f hno
  exact ⟨h2.rd, fun k hk => ⟨(h2.far k hk).1, (h2.far k hk).2.1, fun e => hno k hk (hs k e), (h2.far k hk).2.2.2⟩⟩
theorem DD.ol (h : DD w0 w X pd g bm D Y po g2 F) : ∀ k, Y k → k < w.heap.size := by
  obtain ⟨S, Ao, co, l, Ar, cr, ho⟩ := h.o
  exact ho.low
theorem DD.keep (h : DD w0 w X pd g bm D Y po g2 F) (f : Frm N w w') (hN : ∀ k, N k → w0.heap.size ≤ k ∧ ¬ X k ∧ ¬ Y k) : DD w0 w' X pd g bm D Y po g2 F := by
  obtain ⟨S, Ao, co, l, Ar, cr, ho⟩ := h.o
  exact ⟨⟨h.d.at_.keep f (fun k hk e => (hN k e).2.1 hk), h.d.frm.trans (f.mono (fun k hk => (hN k hk).1)), h.d.low⟩, ⟨S, Ao, co, l, Ar, cr, ho.keep f (fun k hk e => (hN k e).2.2 hk)⟩, h.low, h.dis⟩
theorem DD.fresh (h : DD w0 w X pd g bm D Y po g2 F) (f : Frm (New w) w w') : DD w0 w' X pd g bm D Y po g2 F :=
  h.keep f (fun k hk => by
    have hk : w.heap.size ≤ k := hk
    exact ⟨Nat.le_trans h.d.frm.size hk, fun e => by have := h.d.at_.low k e; omega, fun e => by have := h.ol k e; omega⟩)
theorem DD.dec (h : DD w0 w X pd g bm D Y po g2 F) (hd : QKt w0 w' X' pd g bm D') (f : Frm (Own X w) w w') (hs : ∀ k, X' k → Own X w k) : DD w0 w' X' pd g bm D' Y po g2 F := by
  have hol := h.ol
  obtain ⟨S, Ao, co, l, Ar, cr, ho⟩ := h.o
  have hno : ∀ k, Y k → ¬ Own X w k := fun k hk e => by
    rcases e with e | e
    · exact h.dis k e hk
    · have := hol k hk; have e : w.heap.size ≤ k := e; omega
  exact ⟨hd, ⟨S, Ao, co, l, Ar, cr, ho.keep f hno⟩, h.low, fun k hk hy => hno k hy (hs k hk)⟩
theorem DD.doc (h : DD w0 w X pd g bm D Y po g2 F) {S : Nat → Prop} {Ao : Option Addr} {co : Nat} {l : List Ou} {Ar : Option Addr} {cr : Nat} (ho : OnM Y' w' po g2 S Ao co l Ar cr F') (f : Frm (Own Y w) w w') (hs : ∀ k, Y' k → Own Y w k) : DD w0 w' X pd g bm D Y' po g2 F' := by
  have hno : ∀ k, X k → ¬ Own Y w k := fun k hk e => by
    rcases e with e | e
    · exact h.dis k hk e
    · have := h.d.at_.low k hk; have e : w.heap.size ≤ k := e; omega
  have hl : ∀ k, Own Y w k → New w0 k := fun k hk => by
    rcases hk with e | e
    · exact h.low k e
    · exact Nat.le_trans h.d.frm.size e
  exact ⟨⟨h.d.at_.keep f hno, h.d.frm.trans (f.mono hl), h.d.low⟩, ⟨S, Ao, co, l, Ar, cr, ho⟩, fun k hk => hl k (hs k hk), fun k hk e => hno k hk (hs k e)⟩
theorem Wd.stepX (h : Wd w0 w X Y Ai ci ins As cs S) (f : Frm (Own X w) w w') (hs : ∀ k, X' k → Own X w k) : Wd w0 w' X' Y Ai ci ins As cs S :=
  ⟨h.ki.stepX f hs, h.ic, h.ks.stepX f hs, fun s hm => ⟨(h.each s hm).1.stepX f hs, (h.each s hm).2⟩⟩
theorem Wd.stepY (h : Wd w0 w X Y Ai ci ins As cs S) (f : Frm (Own Y w) w w') (hs : ∀ k, Y' k → Own Y w k) : Wd w0 w' X Y' Ai ci ins As cs S :=
  ⟨h.ki.stepY f hs, h.ic, h.ks.stepY f hs, fun s hm => ⟨(h.each s hm).1.stepY f hs, (h.each s hm).2⟩⟩
theorem Wd.fresh (h : Wd w0 w X Y Ai ci ins As cs S) (f : Frm (New w) w w') : Wd w0 w' X Y Ai ci ins As cs S :=
  ⟨h.ki.fresh f, h.ic, h.ks.fresh f, fun s hm => ⟨(h.each s hm).1.fresh f, (h.each s hm).2⟩⟩
theorem Wa.stepY (h : Wa w0 w X Y Ai ci ins As cs S) (f : Frm (Own Y w) w w') (hs : ∀ k, Y' k → Own Y w k) : Wa w0 w' X Y' Ai ci ins As cs S := by
  have hno : ∀ {A : Option Addr} {xs : List Value}, Kp w0 w X Y A xs → ∀ k, M.blk A = some k → ¬ Own Y w k := fun h k hk e => by
    rcases e with e | e
    · exact (h.far k hk).2.2.1 e
    · have := (h.far k hk).1; have e : w.heap.size ≤ k := e; omega
  exact ⟨h.wd.stepY f hs, (h.ia.keep f (hno h.wd.ki)).tight, (h.sa.keep f (hno h.wd.ks)).tight, h.ap, h.ae⟩
theorem Wa.fresh (h : Wa w0 w X Y Ai ci ins As cs S) (f : Frm (New w) w w') : Wa w0 w' X Y Ai ci ins As cs S := by
  have hno : ∀ {A : Option Addr} {xs : List Value}, Kp w0 w X Y A xs → ∀ k, M.blk A = some k → ¬ New w k := fun h k hk e => by
    have := (h.far k hk).1; have e : w.heap.size ≤ k := e; omega
  exact ⟨h.wd.fresh f, (h.ia.keep f (hno h.wd.ki)).tight, (h.sa.keep f (hno h.wd.ks)).tight, h.ap, h.ae⟩
theorem Wa.insA (h : Wa w0 w X Y Ai ci ins As cs S) (hd : DD w0 w X pd g bm D Y po g2 F) {M' : Nat → Prop} (hA : App M' w' 5 1 A3 (ins ++ a).length c3 (bvs (ins ++ a))) (f : Frm (fun k => M.blk Ai = some k ∨ New w k) w w') (hb : (M.blk A3 = M.blk Ai ∧ c3 = ci) ∨ (M.blk A3 = some w.heap.size ∧ 0 < a.length)) :
    Wa w0 w' X Y A3 c3 (ins ++ a) As cs S ∧ DD w0 w' X pd g bm D Y po g2 F := by
  have hlow := h.wd.ki.far
  have hno : ∀ {A : Option Addr} {xs : List Value}, Kp w0 w X Y A xs → (∀ k, M.blk Ai = some k → M.blk A ≠ some k) → ∀ k, M.blk A = some k → ¬ (M.blk Ai = some k ∨ New w k) := fun h hn k hk e => by
    rcases e with e | e
    · exact hn k e hk
    · have := (h.far k hk).1; have e : w.heap.size ≤ k := e; omega
  have hA3 : ∀ k, M.blk A3 = some k → M.blk Ai = some k ∨ (k = w.heap.size ∧ k < w'.heap.size) := fun k hk => by
    rcases hb with e | e
    · exact .inl (e.1 ▸ hk)
    · have h2 := app_lt hA (by intro q; have := congrArg List.length q; rw [bvs_length, List.length_append] at this; simp only [List.length_nil] at this; omega) k hk
      rw [e.1] at hk
      have : w.heap.size = k := by simpa using hk
      exact .inr ⟨this.symm, h2⟩
  have hfar : ∀ k, M.blk A3 = some k → k < w'.heap.size ∧ ¬ X k ∧ ¬ Y k ∧ w0.heap.size ≤ k := fun k hk => by
    rcases hA3 k hk with e | e
    · exact ⟨Nat.lt_of_lt_of_le (hlow k e).1 f.size, (hlow k e).2⟩
    · exact ⟨e.2, fun q => by have := hd.d.at_.low k q; omega, fun q => by have := hd.ol k q; omega, by have := hd.d.frm.size; omega⟩
  refine ⟨⟨⟨⟨hA.rd, hfar⟩, hA.cap, h.wd.ks.keep f (hno h.wd.ks h.ap), fun s hs => ⟨(h.wd.each s hs).1.keep f (hno (h.wd.each s hs).1 (fun k hk e => (h.ae s hs k e).1 hk)), (h.wd.each s hs).2⟩⟩, hA.tight, (h.sa.keep f (hno h.wd.ks h.ap)).tight, fun k hk => ?_, fun s hs k hk => ⟨fun e => ?_, (h.ae s hs k hk).2⟩⟩, ?_⟩
  · rcases hA3 k hk with e | e
    · exact h.ap k e
    · intro q
      have := (h.wd.ks.far k q).1
      omega
  · rcases hA3 k e with q | q
    · exact (h.ae s hs k hk).1 q
    · have := ((h.wd.each s hs).1.far k hk).1
      omega
  · refine hd.keep f (fun k hk => ?_)
    rcases hk with e | e
    · exact ⟨(hlow k e).2.2.2, (hlow k e).2.1, (hlow k e).2.2.1⟩
    · have e : w.heap.size ≤ k := e
      exact ⟨by have := hd.d.frm.size; omega, fun q => by have := hd.d.at_.low k q; omega, fun q => by have := hd.ol k q; omega⟩
theorem Wa.secA (h : Wa w0 w X Y Ai ci ins As cs S) (hd : DD w0 w X pd g bm D Y po g2 F) (s : Sl UInt8) (hs : Kp w0 w X Y s.A (bvs s.l)) (hc : s.l.length ≤ s.c) (hn : ∀ k, M.blk s.A = some k → M.blk Ai ≠ some k ∧ M.blk As ≠ some k) {M' : Nat → Prop} (hA : App M' w' 23 1 A3 (S ++ [s]).length c3 ((S ++ [s]).flatMap Sl.cells)) (f : Frm (fun k => M.blk As = some k ∨ New w k) w w') (hb : (M.blk A3 = M.blk As ∧ c3 = cs) ∨ (M.blk A3 = some (w.heap.size + 1) ∧ 0 < 1)) :
    Wa w0 w' X Y Ai ci ins A3 c3 (S ++ [s]) ∧ DD w0 w' X pd g bm D Y po g2 F := by
  have hlow := h.wd.ks.far
  have hno : ∀ {A : Option Addr} {xs : List Value}, Kp w0 w X Y A xs → (∀ k, M.blk A = some k → M.blk As ≠ some k) → ∀ k, M.blk A = some k → ¬ (M.blk As = some k ∨ New w k) := fun h hn k hk e => by
    rcases e with e | e
    · exact hn k hk e
    · have := (h.far k hk).1; have e : w.heap.size ≤ k := e; omega
  have hA3 : ∀ k, M.blk A3 = some k → M.blk As = some k ∨ (k = w.heap.size + 1 ∧ k < w'.heap.size) := fun k hk => by
    rcases hb with e | e
    · exact .inl (e.1 ▸ hk)
    · have h2 := app_lt hA (by simp [Sl.cells]) k hk
      rw [e.1] at hk
      have : w.heap.size + 1 = k := by simpa using hk
      exact .inr ⟨this.symm, h2⟩
  have hfar : ∀ k, M.blk A3 = some k → k < w'.heap.size ∧ ¬ X k ∧ ¬ Y k ∧ w0.heap.size ≤ k := fun k hk => by
    rcases hA3 k hk with e | e
    · exact ⟨Nat.lt_of_lt_of_le (hlow k e).1 f.size, (hlow k e).2⟩
    · exact ⟨e.2, fun q => by have := hd.d.at_.low k q; omega, fun q => by have := hd.ol k q; omega, by have := hd.d.frm.size; omega⟩
  have hall : ∀ t ∈ S ++ [s], Kp w0 w X Y t.A (bvs t.l) ∧ t.l.length ≤ t.c ∧ ∀ k, M.blk t.A = some k → M.blk Ai ≠ some k ∧ M.blk As ≠ some k := fun t ht => by
    rcases List.mem_append.1 ht with ht | ht
    · exact ⟨(h.wd.each t ht).1, (h.wd.each t ht).2, h.ae t ht⟩
    · rw [List.mem_singleton.1 ht]
      exact ⟨hs, hc, hn⟩
  refine ⟨⟨⟨h.wd.ki.keep f (hno h.wd.ki h.ap), h.wd.ic, ⟨hA.rd, hfar⟩, fun t ht => ⟨(hall t ht).1.keep f (hno (hall t ht).1 (fun k hk => ((hall t ht).2.2 k hk).2)), (hall t ht).2.1⟩⟩, (h.ia.keep f (hno h.wd.ki h.ap)).tight, hA.tight, fun k hk e => ?_, fun t ht k hk => ⟨((hall t ht).2.2 k hk).1, fun e => ?_⟩⟩, ?_⟩
  · rcases hA3 k e with q | q
    · exact h.ap k hk q
    · have := (h.wd.ki.far k hk).1
      omega
  · rcases hA3 k e with q | q
    · exact ((hall t ht).2.2 k hk).2 q
    · have := ((hall t ht).1.far k hk).1
      omega
  · refine hd.keep f (fun k hk => ?_)
    rcases hk with e | e
    · exact ⟨(hlow k e).2.2.2, (hlow k e).2.1, (hlow k e).2.2.1⟩
    · have e : w.heap.size ≤ k := e
      exact ⟨by have := hd.d.frm.size; omega, fun q => by have := hd.d.at_.low k q; omega, fun q => by have := hd.ol k q; omega⟩
theorem Wa.start (w0 w : World) (X Y : Nat → Prop) : Wa w0 w X Y none 0 [] none 0 [] :=
  ⟨⟨⟨Rd.nil, fun k hk => by cases hk⟩, Nat.le_refl _, ⟨Rd.nil, fun k hk => by cases hk⟩, fun s hs => by cases hs⟩, App.none_, App.none_, fun k hk => (by cases hk), fun s hs => by cases hs⟩
theorem DD.ofeed (h : DD w0 w X pd g bm D Y po g2 F) (b : Bytes) (A : Option Addr) (c : Nat) (hR : Rd w A (bvs b)) (hlen : F.rest.length + b.length ≤ 1073741824) :
    Calls Try.prog 23 #[.pointer (some ⟨po, 0, none⟩), .slice A b.length c] w fun e w' => e = .returned (.int .i64 ((F.feed b).1 : Nat)) ∧ ∃ Y', DD w0 w' X pd g bm D Y' po g2 (F.feed b).2 := by
  have h0 := h
  obtain ⟨S, Ao, co, l, Ar, cr, ho⟩ := h.o
  refine (ofeed_any ho b A c hR hlen).mono ?_
  rintro e w' ⟨rfl, X', S', Ao', co', l', Ar', cr', h1, h2, h3⟩
  exact ⟨rfl, X', h0.doc h1 h2 h3⟩
theorem DD.onew (h : QKt w0 w' X pd g bm D) {S : Nat → Prop} {Ao : Option Addr} {co : Nat} {l : List Ou} {Ar : Option Addr} {cr : Nat} (ho : OnM Y w po g2 S Ao co l Ar cr F) (f : Frm (New w) w w') (hx : ∀ k, X k → w.heap.size ≤ k) (hy : ∀ k, Y k → w0.heap.size ≤ k) : DD w0 w' X pd g bm D Y po g2 F :=
  ⟨h, ⟨S, Ao, co, l, Ar, cr, ho.fresh f⟩, hy, fun k hk e => by have := ho.low k e; have := hx k hk; omega⟩
end
end Go.Proofs.Ytdgggjeiflllhaa.M

