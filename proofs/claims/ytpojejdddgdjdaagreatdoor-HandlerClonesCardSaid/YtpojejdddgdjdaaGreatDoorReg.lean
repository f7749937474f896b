/- A region that draws its order, whose last operation q writes a cell that others load: a condition S0 on the world that holds till q has come up. Over any program. -/
import Derived.Test.YtpojejdddgdjdaaGreatDoorMem
import Derived.OrdersHeld
import Derived.Deep.RegionHeld
namespace Go.Proofs.YtpojejdddgdjdaaGreatDoor.M
open Go.ChangeShapes Go.WideShapes Go.ChangeAt Go.RowKit

section
variable {P : Program} {ops : Array Oper} {Q : Exit → Act → World → Prop} {md : Region.Mode} {S0 : World → Prop} {q : Nat}

/-- S0 holds, or q has come up -/
def Til (S0 : World → Prop) (q : Nat) (listed : Array Bool) (w : World) : Prop := listed.getD q false = true ∨ S0 w
/-- whatever order is picked from here on, and behind every operation S0 holds, or q has come up -/
def wpAnyT (P : Program) (md : Region.Mode) (ops : Array Oper) (Q : Exit → Act → World → Prop) (S0 : World → Prop) (q : Nat) : Nat → Array Bool → Act → World → Prop
  | 0, listed, a, w => Region.ready md ops listed = [] ∧ Q .normal a w
  | fuel + 1, listed, a, w =>
    (Region.ready md ops listed = [] → Q .normal a w) ∧
    ∀ i ∈ Region.ready md ops listed, wpOp P ops Q i (fun a' w' => Til S0 q (listed.setIfInBounds i true) w' ∧ wpAnyT P md ops Q S0 q fuel (listed.setIfInBounds i true) a' w') a w
theorem wpAny_of_til : ∀ (fuel : Nat) (listed : Array Bool) (a : Act) (w : World), wpAnyT P md ops Q S0 q fuel listed a w → wpAny P md ops Q fuel listed a w
  | 0, _, _, _, h => h
  | fuel + 1, _, _, _, h => ⟨h.1, fun i hi => wpOp_mono (fun a' w' h' => wpAny_of_til fuel _ a' w' h'.2) (h.2 i hi)⟩

/-- i comes up first: q waits for it, and till then it yields v in every world that meets S0 -/
theorem wpAnyT_first {i : Nat} {oi : Oper} {v : Value} (hi : ops[i]? = some oi) (hsel : ∀ (j : Nat) (o : Oper) cs b, ops[j]? = some o → o.op ≠ .select cs b)
    (hQ : ∀ c a w, Q (.panic c) (a.put oi.dst v) w → Q (.panic c) a w) (hiq : i ≠ q) (hw : ∀ listed : Array Bool, listed.getD i true = false → q ∉ Region.ready md ops listed) :
    ∀ (fuel : Nat) (listed : Array Bool) (a : Act) (w : World),
      (∀ j oj, ops[j]? = some oj → j ≠ i → listed.getD j true = false → (∀ e ∈ oj.after, Region.binds md e = true → e.on ≠ i) → oi.apart ops oj = true) →
      i ∈ Region.ready md ops listed → YieldsIf P ops S0 oi v a → listed.getD q false = false → S0 w →
      wpAnyT P md ops Q S0 q fuel (listed.setIfInBounds i true) (a.put oi.dst v) w → wpAnyT P md ops Q S0 q (fuel + 1) listed a w := by
  intro fuel
  induction fuel with
  | zero =>
    intro listed a w _ hr hy hq hS H
    refine ⟨fun h => (by rw [h] at hr; cases hr), fun j hj => ?_⟩
    by_cases hji : j = i
    · subst hji; exact hy.wpOp hi hS ⟨.inr hS, H⟩
    · have := ready_mono hj hji
      rw [H.1] at this
      cases this
  | succ fuel ih =>
    intro listed a w hfree hr hy hq hS H
    refine ⟨fun h => (by rw [h] at hr; cases hr), fun j hj => ?_⟩
    by_cases hji : j = i
    · subst hji; exact hy.wpOp hi hS ⟨.inr hS, H⟩
    · have hjq : j ≠ q := fun e => hw listed (mem_ready.1 hr).1 (e ▸ hj)
      have h1 := H.2 j (ready_mono hj hji)
      obtain ⟨hjun, oj, hoj, hall⟩ := mem_ready.1 hj
      have hnot : ∀ e ∈ oj.after, Region.binds md e = true → e.on ≠ i := fun e he hb heq => by
        have h1 := hall e he hb
        have h0 := (mem_ready.1 hr).1
        rw [heq] at h1
        rcases Nat.lt_or_ge i listed.size with h' | h'
        · simp [h'] at h0 h1; rw [h0] at h1; cases h1
        · simp [Array.getElem?_eq_none h'] at h1
      have h2 := wpOp_putIf hoj (hfree j oj hoj hji hjun hnot) (fun cs b => hsel i oi cs b hi) (fun cs b => hsel j oj cs b hoj) hQ hy h1
      have hfree' : ∀ k ok, ops[k]? = some ok → k ≠ i → (listed.setIfInBounds j true).getD k true = false →
          (∀ e ∈ ok.after, Region.binds md e = true → e.on ≠ i) → oi.apart ops ok = true := fun k ok hk hki hun hno => by
        refine hfree k ok hk hki ?_ hno
        by_cases hjk : j = k
        · subst hjk; exact hjun
        · rw [getD_set_ne true hjk] at hun; exact hun
      have hq' : (listed.setIfInBounds j true).getD q false = false := by rw [getD_set_ne false hjq]; exact hq
      refine wpOp_mono (fun a' w' h3 => ?_) h2
      have hS' : S0 w' := by
        rcases h3.2.1 with h4 | h4
        · rw [getD_set_ne false hjq, getD_set_ne false hiq, hq] at h4; cases h4
        · exact h4
      refine ⟨.inr hS', ih (listed.setIfInBounds j true) a' w' hfree' (ready_mono hr (Ne.symm hji)) h3.1 hq' hS' ?_⟩
      rw [Array.setIfInBounds_comm _ _ hji]
      exact h3.2.2

/-- q waits for i -/
def waitsB (md : Region.Mode) (ops : Array Oper) (q i : Nat) : Bool := (((ops[q]?).map fun o => o.after.any fun e => Region.binds md e && e.on == i)).getD false
theorem waits_ready {i : Nat} (h : waitsB md ops q i = true) (listed : Array Bool) (hl : listed.getD i true = false) : q ∉ Region.ready md ops listed := fun hr => by
  obtain ⟨_, oq, hoq, hall⟩ := mem_ready.1 hr
  unfold waitsB at h
  rw [hoq] at h
  obtain ⟨e, he, hb⟩ := Array.any_eq_true'.1 (show (oq.after.any fun e => Region.binds md e && e.on == i) = true from h)
  simp only [Bool.and_eq_true, beq_iff_eq] at hb
  have h1 := hall e he hb.1
  rw [hb.2] at h1
  rcases Nat.lt_or_ge i listed.size with h' | h'
  · simp [h'] at hl h1; rw [hl] at h1; cases h1
  · simp [Array.getElem?_eq_none h'] at h1
theorem wpAnyT_take {i : Nat} {oi : Oper} {v : Value} {d : Option Tmp} {fuel : Nat} {listed : Array Bool} {a : Act} {w : World} (hi : ops[i]? = some oi) (hd : oi.dst = d)
    (hc : (Region.noSelect ops && Region.free md ops listed i && (Region.ready md ops listed).contains i && waitsB md ops q i && decide (i ≠ q) && !listed.getD q false) = true)
    (hQ : ∀ c a w, Q (.panic c) (a.put oi.dst v) w → Q (.panic c) a w) (hwt : Region.wanted oi (yielded ops a.tmps) = true) (hS : S0 w) (hy : ∀ w, S0 w → (execOp a.eval oi).run P w = .ok (.value v) w)
    (h : wpAnyT P md ops Q S0 q fuel (listed.setIfInBounds i true) (a.put d v) w) : wpAnyT P md ops Q S0 q (fuel + 1) listed a w := by
  subst hd
  simp only [Bool.and_eq_true, decide_eq_true_eq, Bool.not_eq_true'] at hc
  obtain ⟨⟨⟨⟨⟨hs, hf⟩, hr⟩, hw⟩, hq⟩, hl⟩ := hc
  exact wpAnyT_first hi (Region.noSelect_spec hs) hQ hq (fun l h => waits_ready hw l h) fuel listed a w (Region.free_spec hi hf) (by simpa using hr) (.inl ⟨hwt, hy⟩) hl hS h
/-- just i may come up -/
theorem wpAnyT_one {i : Nat} {o : Oper} {fuel : Nat} {listed : Array Bool} {a : Act} {w : World} (hi : ops[i]? = some o) (hr : Region.ready md ops listed = [i])
    (h : ∀ K' : Act → World → Prop, Shut (∀ a w, Til S0 q (listed.setIfInBounds i true) w → wpAnyT P md ops Q S0 q fuel (listed.setIfInBounds i true) a w → K' a w) →
      if Region.wanted o (yielded ops a.tmps) = true then Oper.wp P o a w K' Q else K' (a.put o.dst undef) w) : wpAnyT P md ops Q S0 q (fuel + 1) listed a w := by
  refine ⟨fun h0 => by (rw [h0] at hr; cases hr), fun j hj => ?_⟩
  rw [hr] at hj
  obtain rfl : j = i := by simpa using hj
  exact wpOp_step hi (fun K' hK => h K' (fun a w hT hW => hK a w ⟨hT, hW⟩))
theorem wpAnyT_done {listed : Array Bool} {a : Act} {w : World} (hr : Region.ready md ops listed = []) (h : Q .normal a w) : ∀ fuel, wpAnyT P md ops Q S0 q fuel listed a w
  | 0 => ⟨hr, h⟩
  | _ + 1 => ⟨fun _ => h, by rw [hr]; simp⟩
theorem wp_region_til {id : Nat} {a : Act} {w : World} (hm : P.follows .mixedOrders = true) (S0 : World → Prop) (q : Nat)
    (h : wpAnyT P .any ops Q S0 q ops.size (Array.replicate ops.size false) a w.drew) : (Code.region id ops true).wp P Q a w :=
  wp_region_any hm (wpAny_of_til _ _ _ _ h)
end
end Go.Proofs.YtpojejdddgdjdaaGreatDoor.M
