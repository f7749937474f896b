/- Qr -/
import Derived.BigQuiet
import Derived.Deep.CutBlock
import Derived.Lib.Hide
import Derived.IntWalk
import Derived.StillTailTactics
import Derived.Test.YtdgggjeiflllhaaZyLev
import Derived.Test.YtdgggjeiflllhaaZyArr
import Derived.Test.YtdgggjeiflllhaaZyQt

namespace Go.Proofs.Ytdgggjeiflllhaa.M
open Go.ChangeShapes Go.WideShapes Go.ChangeAt Go.RowKit
def PQ (e : Nat) : Ending := .panicked [{ v := .iface 167 (.agg #[.int .i64 (e : Int)]), recovered := false }]
theorem qmust_ok (w : World) : Calls Try.prog 132 #[.int .i64 0] w fun e w' => e = .returned (.tuple #[]) ∧ w' = w := by
  go_enter Try.func132, Try.ntmps132
  go_wp2
  go_end0
  exact ⟨rfl, rfl⟩
theorem qmust_bad (x : Nat) (hx : x ≠ 0) (w : World) : Calls Try.prog 132 #[.int .i64 (x : Int)] w fun e w' => e = PQ (fixE x) ∧ w' = w := by
  have h0 : ((x : Int) == 0) = false := beq_eq_false_iff_ne.2 (by omega)
  have h0' : ¬ (x : Int) = 0 := by omega
  by_cases h : x = 20
  · subst h
    clear h0 h0' hx
    go_enter Try.func132, Try.ntmps132
    go_wp2
    exact ⟨rfl, rfl, rfl⟩
  · have h1 : ((x : Int) == 20) = false := beq_eq_false_iff_ne.2 (by omega)
    have h1' : ¬ (x : Int) = 20 := by omega
    have hf : fixE x = 26 := by unfold fixE; rw [if_neg h]
    rw [hf]
    clear h hx hf
    go_enter Try.func132, Try.ntmps132
    go_wp2
    exact ⟨rfl, rfl, rfl⟩
theorem qask_true (w : World) : Calls Try.prog 67 #[.bool true] w fun e w' => e = .returned (.tuple #[]) ∧ w' = w := by
  go_enter Try.func67, Try.ntmps67
  go_wp2
  go_end0
  exact ⟨rfl, rfl⟩
theorem qask_false (w : World) : Calls Try.prog 67 #[.bool false] w fun e w' => e = PQ 26 ∧ w' = w := by
  go_enter Try.func67, Try.ntmps67
  go_wp2
  exact ⟨rfl, rfl, rfl⟩
structure RdAt (w : World) (pr : Nat) (r : Bytes) (A : Option Addr) (c : Nat) : Prop where
  blk : Blk w pr 129 #[.slice A r.length c]
  rd : Rd w A (bvs r)
  rc : r.length ≤ c
  rl : r.length ≤ 1099511627776
  far : ∀ k, M.blk A = some k → k ≠ pr
section
variable {M : Nat → Prop} {w w' : World} {pr c : Nat} {r : Bytes} {A : Option Addr}
theorem RdAt.keep (h : RdAt w pr r A c) (f : Frm M w w') (hp : ¬ M pr) (hA : Far M A) : RdAt w' pr r A c := ⟨h.blk.keep f hp, h.rd.keep f hA, h.rc, h.rl, h.far⟩
theorem RdAt.fresh (h : RdAt w pr r A c) (f : Frm (New w) w w') : RdAt w' pr r A c := ⟨h.blk.fresh f, h.rd.fresh f, h.rc, h.rl, h.far⟩
theorem RdAt.cell (h : RdAt w pr r A c) : w.cell? ⟨pr, 0, none⟩ = some (.slice A r.length c) ∧ pr < w.heap.size := by
  have h0 := h.blk.cell 0
  simp only [List.getElem?_toArray, List.getElem?_cons_zero] at h0
  exact ⟨h0, h.blk.lt⟩
def Sub (A : Option Addr) (c : Nat) (A2 : Option Addr) (c2 : Nat) : Prop := Go.Proofs.Ytdgggjeiflllhaa.M.blk A2 = Go.Proofs.Ytdgggjeiflllhaa.M.blk A ∧ ∀ g off, A = some ⟨g, off, none⟩ → ∃ off2, A2 = some ⟨g, off2, none⟩ ∧ off ≤ off2 ∧ off2 + c2 ≤ off + c
theorem Sub.trans {A A2 A3 : Option Addr} {c c2 c3 : Nat} (h : Sub A2 c2 A3 c3) (k : Sub A c A2 c2) : Sub A c A3 c3 := ⟨h.1.trans k.1, fun g off e => by
  obtain ⟨o2, e2, l2, m2⟩ := k.2 g off e
  obtain ⟨o3, e3, l3, m3⟩ := h.2 g o2 e2
  exact ⟨o3, e3, by omega, by omega⟩⟩
theorem RdAt.cut (h : RdAt w pr r A c) (k : Nat) (_hk : k ≤ r.length) : ∃ A2, (if c = k then A else A.map (·.add k)) = A2 ∧ Sub A c A2 (c - k) ∧
    RdAt (w.setCell ⟨pr, 0, none⟩ (.slice A2 (r.length - k) (c - k))) pr (r.drop k) A2 (c - k) := by
  obtain ⟨A2, h1, h2⟩ := h.rd.from_ h.rc k
  have hb := h.blk.set_ 0 (.slice A2 (r.length - k) (c - k))
  have hF : Frm (fun j => j = pr) w (w.setCell ⟨pr, 0, none⟩ (.slice A2 (r.length - k) (c - k))) := (Frm.refl (fun j => j = pr) w).setCell (p := ⟨pr, 0, none⟩) rfl _
  have hbk : Go.Proofs.Ytdgggjeiflllhaa.M.blk A2 = Go.Proofs.Ytdgggjeiflllhaa.M.blk A := by
    rw [← h1]
    split
    · rfl
    · cases A with
      | none => rfl
      | some x => simp only [M.blk, Option.map_some, Addr.add]; split <;> rfl
  have hrc := h.rc
  have hrl := h.rl
  have hsub : Sub A c A2 (c - k) := ⟨hbk, fun g off e => by
    subst e
    rw [← h1]
    split
    · exact ⟨off, rfl, Nat.le_refl _, by omega⟩
    · exact ⟨off + k, by simp [Addr.add_lit], by omega, by omega⟩⟩
  refine ⟨A2, h1, hsub, ⟨by rw [List.length_drop]; simpa using hb, h2.keep hF (fun j hj e => h.far j (hbk ▸ hj) e), by rw [List.length_drop]; omega, by rw [List.length_drop]; omega, fun j hj => h.far j (hbk ▸ hj)⟩⟩
end
def ReadR (wr : World) (pr : Nat) (r : Bytes) (A : Option Addr) (c : Nat) (v : Value) (k err : Nat) (e : Ending) (w' : World) : Prop :=
  if err = 0 then e = .returned v ∧ (∃ A2, RdAt w' pr (r.drop k) A2 (c - k) ∧ Sub A c A2 (c - k)) ∧ Frm (fun j => j = pr ∨ New wr j) wr w' else e = PQ (fixE err) ∧ Frm (fun j => j = pr ∨ New wr j) wr w'
set_option maxRecDepth 100000 in
set_option maxHeartbeats 1000000 in
theorem qnumber_any {wr : World} {pr c : Nat} {r : Bytes} {A : Option Addr} (k : Nat) (h : RdAt wr pr r A c) (k0 : 1 ≤ k) (k1 : k ≤ 8) :
    Calls Try.prog 104 #[.pointer (some ⟨pr, 0, none⟩), .int .i64 k] wr (ReadR wr pr r A c (.int .u64 ((rdp r k).1 : Nat)) (rdp r k).2.1 (rdp r k).2.2) := by
  have h256 : 2 ^ k ≤ 256 := Nat.le_trans (Nat.pow_le_pow_right (by decide) k1) (by decide)
  have hrg := rdp_range r k h256
  have hrp := nrdp_any r A c k wr h.rd (by have := h.rl; omega) k0 k1
  unfold Ret3 at hrp
  generalize rdp r k = q at *
  obtain ⟨n, at_, e⟩ := q
  simp only at hrg hrp ⊢
  obtain ⟨hy0, hyl⟩ := h.cell
  have H := Lib.hid h
  have HRP := Lib.hid hrp
  clear h hrp
  unfold ReadR
  by_cases he : e = 0
  · subst he
    rw [show ((0 : Nat) : Int) = 0 from rfl] at HRP
    obtain ⟨g1, g2, g3⟩ := hrg rfl
    simp only [↓reduceIte]
    go_enter Try.func104, Try.ntmps104
    go_wp2_with (fail)
    refine HRP.out.mono ?_
    rintro e' w2 ⟨rfl, nn, hw2⟩
    have hF2 : Frm (New wr) wr w2 := by rw [hw2]; exact (Frm.refl _ _).drewN nn
    clear hw2
    have hM2 := H.out.fresh hF2
    have HF2 := Lib.hid hF2
    clear hF2
    clear hy0 hyl
    obtain ⟨hy0, hyl⟩ := hM2.cell
    have hz := hM2.blk.frozen 0
    obtain ⟨A2, hA2, hbk, hM3⟩ := hM2.cut at_ g2
    have hrc := hM2.rc
    have HM2 := Lib.hid hM2
    have HM3 := Lib.hid hM3
    have HA2 := Lib.hid hA2
    have HBK := Lib.hid hbk
    clear hM2 hM3 hA2 hbk
    go_wp2_with (fail)
    refine (qmust_ok _).mono ?_
    rintro e' w3 ⟨rfl, hw3⟩
    rw [hw3]
    clear hw3
    go_wp2_with (refine wpList_val rfl (.slice A2 (r.length - at_) (c - at_)) (by rw [← HA2.out]; exact run_from rfl rfl rfl rfl g2) ?_)
    go_ret
    exact ⟨rfl, ⟨A2, HM3.out, HBK.out⟩, (HF2.out.mono (fun _ hk => .inr hk)).setCell (p := ⟨pr, 0, none⟩) (.inl rfl) _⟩
  · simp only [if_neg he]
    go_enter Try.func104, Try.ntmps104
    go_wp2_with (fail)
    refine HRP.out.mono ?_
    rintro e' w2 ⟨rfl, nn, hw2⟩
    have hF2 : Frm (New wr) wr w2 := by rw [hw2]; exact (Frm.refl _ _).drewN nn
    clear hw2
    clear hy0 hyl
    have HF2 := Lib.hid hF2
    clear hF2
    go_wp2_with (fail)
    refine (qmust_bad e he _).mono ?_
    rintro e' w3 ⟨rfl, hw3⟩
    rw [hw3]
    clear hw3
    unfold PQ
    go_wp2
    exact ⟨rfl, rfl, HF2.out.mono (fun _ hk => .inr hk)⟩
set_option maxRecDepth 100000 in
set_option maxHeartbeats 1000000 in
theorem qvalue_any {wr : World} {pr c : Nat} {r : Bytes} {A : Option Addr} (h : RdAt wr pr r A c) :
    Calls Try.prog 109 #[.pointer (some ⟨pr, 0, none⟩)] wr (ReadR wr pr r A c (str (strD r 7).1) (strD r 7).2.1 (strD r 7).2.2) := by
  have hrg := strD_range r 7 (by decide)
  have hrp := hstr_any r A c wr h.rd h.rl h.rc
  unfold RetS at hrp
  generalize strD r 7 = q at *
  obtain ⟨s, at_, e⟩ := q
  simp only [str] at hrg hrp ⊢
  obtain ⟨hy0, hyl⟩ := h.cell
  have H := Lib.hid h
  have HRP := Lib.hid hrp
  clear h hrp
  unfold ReadR
  by_cases he : e = 0
  · subst he
    rw [show ((0 : Nat) : Int) = 0 from rfl] at HRP
    obtain ⟨g1, g2⟩ := hrg rfl
    simp only [↓reduceIte]
    go_enter Try.func109, Try.ntmps109
    go_wp2_with (fail)
    refine HRP.out.mono ?_
    rintro e' w2 ⟨rfl, hF2⟩
    have hM2 := H.out.fresh hF2
    have HF2 := Lib.hid hF2
    clear hF2
    clear hy0 hyl
    obtain ⟨hy0, hyl⟩ := hM2.cell
    have hz := hM2.blk.frozen 0
    obtain ⟨A2, hA2, hbk, hM3⟩ := hM2.cut at_ g2
    have hrc := hM2.rc
    have HM2 := Lib.hid hM2
    have HM3 := Lib.hid hM3
    have HA2 := Lib.hid hA2
    have HBK := Lib.hid hbk
    clear hM2 hM3 hA2 hbk
    go_wp2_with (fail)
    refine (qmust_ok _).mono ?_
    rintro e' w3 ⟨rfl, hw3⟩
    rw [hw3]
    clear hw3
    go_wp2_with (refine wpList_val rfl (.slice A2 (r.length - at_) (c - at_)) (by rw [← HA2.out]; exact run_from rfl rfl rfl rfl g2) ?_)
    go_ret
    exact ⟨rfl, ⟨A2, HM3.out, HBK.out⟩, (HF2.out.mono (fun _ hk => .inr hk)).setCell (p := ⟨pr, 0, none⟩) (.inl rfl) _⟩
  · simp only [if_neg he]
    go_enter Try.func109, Try.ntmps109
    go_wp2_with (fail)
    refine HRP.out.mono ?_
    rintro e' w2 ⟨rfl, hF2⟩
    clear hy0 hyl
    have HF2 := Lib.hid hF2
    clear hF2
    go_wp2_with (fail)
    refine (qmust_bad e he _).mono ?_
    rintro e' w3 ⟨rfl, hw3⟩
    rw [hw3]
    clear hw3
    unfold PQ
    go_wp2
    exact ⟨rfl, rfl, HF2.out.mono (fun _ hk => .inr hk)⟩
end Go.Proofs.Ytdgggjeiflllhaa.M

