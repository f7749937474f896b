/- Qi -/
import Derived.BigQuiet
import Derived.Deep.CutBlock
import Derived.Lib.Hide
import Derived.IntWalk
import Derived.StillTailTactics
import Derived.Test.YtdgggjeiflllhaaZyQs
import Derived.Test.YtdgggjeiflllhaaZyQa
import Derived.Test.YtdgggjeiflllhaaZyRtab

namespace Go.Proofs.Ytdgggjeiflllhaa.M
open Go.ChangeShapes Go.WideShapes Go.ChangeAt Go.RowKit
theorem insQ_a {lim : Nat} {T : Tb} {r : Bytes} {i k e : Nat} (h : 128 ≤ (r.headD 0).toNat) (hq : rdp r 6 = (i, k, e)) : insQ lim T r = if e ≠ 0 then (fixE e, 0, T) else match nameQ T i (decide ((r.headD 0).toNat / 64 % 2 = 1)) with | none => (26, 0, T) | some nm => valQ T nm r k := by
  unfold insQ
  simp only [if_pos h, hq]
  rfl
theorem insQ_b {lim : Nat} {T : Tb} {r nm : Bytes} {k e : Nat} (h : ¬ 128 ≤ (r.headD 0).toNat) (h2 : 64 ≤ (r.headD 0).toNat) (hq : strD r 5 = (nm, k, e)) : insQ lim T r = if e ≠ 0 then (fixE e, 0, T) else valQ T nm r k := by
  unfold insQ
  simp only [if_neg h, if_pos h2, hq]
theorem insQ_c {lim : Nat} {T : Tb} {r : Bytes} {n k e : Nat} (h2 : ¬ 64 ≤ (r.headD 0).toNat) (h3 : 32 ≤ (r.headD 0).toNat) (hq : rdp r 5 = (n, k, e)) : insQ lim T r = if e ≠ 0 then (fixE e, 0, T) else if lim < n then (26, 0, T) else (0, k, T.resize n) := by
  unfold insQ
  have h : ¬ 128 ≤ (r.headD 0).toNat := by omega
  simp only [if_neg h, if_neg h2, if_pos h3, hq]
theorem insQ_d {lim : Nat} {T : Tb} {r : Bytes} {i k e : Nat} (h3 : ¬ 32 ≤ (r.headD 0).toNat) (hq : rdp r 5 = (i, k, e)) : insQ lim T r = if e ≠ 0 then (fixE e, 0, T) else match T.new i with | none => (26, 0, T) | some f => addQ T f k := by
  unfold insQ
  have h : ¬ 128 ≤ (r.headD 0).toNat := by omega
  have h2 : ¬ 64 ≤ (r.headD 0).toNat := by omega
  simp only [if_neg h, if_neg h2, if_neg h3, hq]
  rfl
theorem valQ_eq {T : Tb} {nm r v : Bytes} {k k2 e : Nat} (hq : strD (r.drop k) 7 = (v, k2, e)) : valQ T nm r k = if e ≠ 0 then (fixE e, 0, T) else addQ T (nm, v) (k + k2) := by
  unfold valQ
  rw [hq]
theorem fixE_ne (e : Nat) : fixE e ≠ 0 := by unfold fixE; split <;> decide
theorem tab_small {T : Tb} (ho : T.Ok) (hc : T.cap ≤ 4096) {f : Fld} (h : f ∈ T.l) : fsize f ≤ 4096 := by
  have hm : ∀ l : List Fld, f ∈ l → fsize f ≤ fsizes l := fun l => by
    induction l with
    | nil => intro h; cases h
    | cons x r ih =>
      intro h
      rw [fsizes_cons]
      rcases List.mem_cons.1 h with rfl | h
      · omega
      · have := ih h; omega
  have h1 := hm T.l h
  have := ho.fits
  omega
theorem h3_small : ∀ f ∈ h3tab, f.1.length ≤ 4096 ∧ f.2.length ≤ 4096 := by
  have h : (h3tab.all fun f => decide (f.1.length ≤ 4096) && decide (f.2.length ≤ 4096)) = true := by kernel_rfl
  intro f hf
  have := List.all_eq_true.1 h f hf
  simpa using this
theorem nameQ_small {T : Tb} (ho : T.Ok) (hc : T.cap ≤ 4096) {i : Nat} {fx : Bool} {nm : Bytes} (h : nameQ T i fx = some nm) : nm.length ≤ 4096 := by
  unfold nameQ at h
  cases fx with
  | true =>
    rw [if_pos rfl] at h
    cases hg : h3tab[i]? with
    | none => rw [hg] at h; cases h
    | some f => rw [hg] at h; cases h; exact (h3_small f (List.mem_of_getElem? hg)).1
  | false =>
    rw [if_neg Bool.false_ne_true] at h
    cases hg : T.new i with
    | none => rw [hg] at h; cases h
    | some f =>
      rw [hg] at h
      cases h
      unfold Tb.new at hg
      split at hg
      · have := tab_small ho hc (List.mem_of_getElem? hg)
        unfold fsize at this
        show f.1.length ≤ 4096
        omega
      · cases hg
def InsR (S : Nat → Prop) (w : World) (pr g : Nat) (r : Bytes) (A : Option Addr) (c : Nat) (R : Nat × Nat × Tb) (e : Ending) (w' : World) : Prop :=
  if R.1 = 0 then e = .returned (.tuple #[]) ∧ (∃ A2, RdAt w' pr (r.drop R.2.1) A2 (c - R.2.1) ∧ Sub A c A2 (c - R.2.1)) ∧ (∃ S', TabS S' w' g R.2.2 ∧ ∀ k, S' k → Own S w k) ∧ Frm (fun j => j = pr ∨ Own S w j) w w'
  else e = PQ R.1 ∧ Frm (fun j => j = pr ∨ New w j) w w'
theorem InsR.bad {S : Nat → Prop} {w w' : World} {pr g c : Nat} {r : Bytes} {A : Option Addr} {R : Nat × Nat × Tb} {x k : Nat} {T : Tb} {e : Ending} (hR : R = (x, k, T)) (hx : x ≠ 0) (he : e = PQ x) (f : Frm (fun j => j = pr ∨ New w j) w w') : InsR S w pr g r A c R e w' := by
  subst hR
  unfold InsR
  rw [if_neg hx]
  exact ⟨he, f⟩
theorem RdAt.own {S : Nat → Prop} {w w' : World} {pr c : Nat} {r : Bytes} {A : Option Addr} (h : RdAt w pr r A c) (hp : ¬ S pr) (hpl : pr < w.heap.size) (hA : ∀ k, M.blk A = some k → ¬ S k ∧ k < w.heap.size) (f : Frm (Own S w) w w') : RdAt w' pr r A c :=
  h.keep f (fun e => by rcases e with e | e; exact hp e; omega) (fun k hk e => by rcases e with e | e; exact (hA k hk).1 e; have := (hA k hk).2; omega)
end Go.Proofs.Ytdgggjeiflllhaa.M

