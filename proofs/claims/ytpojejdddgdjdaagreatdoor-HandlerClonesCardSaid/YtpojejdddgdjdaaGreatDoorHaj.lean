/- Keys: what it returns. No condition. -/
import Derived.BigQuiet
import Derived.Deep.CutBlock
import Derived.Lib.Hide
import Derived.IntWalk
import Derived.Test.YtpojejdddgdjdaaGreatDoorHai
import Derived.Test.YtpojejdddgdjdaaGreatDoorLk
namespace Go.Proofs.YtpojejdddgdjdaaGreatDoor.M
open Go.ChangeShapes Go.WideShapes Go.ChangeAt Go.RowKit

open Go.Maps Go.Sort Go.Shelf
set_option maxRecDepth 100000 in
theorem le64 : 64 ≤ maxLen := by unfold maxLen; omega
/-- what a value reads as: nothing -/
def RZ : Value → Option (DataW Unit × List MemPlace) := fun _ => some (.nil, [])
theorem insert_perm {H : Type} (x : Lit × DataW H) (l : List (Lit × DataW H)) : (DataW.insert x l).Perm (x :: l) := by
  induction l with
  | nil => exact List.Perm.refl _
  | cons y r ih =>
    unfold DataW.insert
    split
    · exact List.Perm.refl _
    · exact (ih.cons y).trans (List.Perm.swap x y r)
theorem foldr_perm {H : Type} (l : List (Lit × DataW H)) : (l.foldr DataW.insert []).Perm l := by
  induction l with
  | nil => exact List.Perm.refl _
  | cons x r ih => exact (insert_perm x _).trans (ih.cons x)
set_option maxRecDepth 100000 in
theorem owns_of {w : World} {b : Nat} {L : List (Bytes × SV)} (hM : MapIs w b str (entsV L)) (hn : (L.map (·.1)).Nodup) (hk : ∀ x ∈ L, x.1.length ≤ 32) (hl : L.length ≤ 64) :
    ∃ D0 : DataW Unit, w.ownsMap Tryz.prog 9 RZ b 64 D0 ∧ (strKeys D0).Perm (L.map (·.1)) ∧ Maps.size D0 ≤ 64 := by
  obtain ⟨es, clock, hb, hs, he⟩ := hM
  have hsz : es.size = L.length := by
    have := congrArg List.length he
    simpa [entsV] using this
  have hkey : es.toList.map (·.key) = L.map (fun x => str x.1) := by
    have := congrArg (List.map Prod.fst) he
    simpa [entsV, List.map_map, Function.comp_def] using this
  have hread : ∀ x ∈ es.toList, ∃ k : Bytes, k ∈ L.map (·.1) ∧ x.key = str k ∧ Go.WideElems.rd Tryz.prog 9 RZ x = some (.string k, .nil) := fun x hx => by
    have h1 : x.key ∈ es.toList.map (·.key) := List.mem_map.2 ⟨x, hx, rfl⟩
    rw [hkey] at h1
    obtain ⟨y, hy, hyk⟩ := List.mem_map.1 h1
    refine ⟨y.1, List.mem_map.2 ⟨y, hy, rfl⟩, hyk.symm, ?_⟩
    obtain ⟨xk, xv, xb⟩ := x
    simp only at hyk
    have hlen := hk y hy
    have hko : keyOf Tryz.prog 9 (str y.1) = some (.string y.1) := by
      unfold keyOf mapKey
      simp only [u9, str]
      have : (⟨y.1.toArray⟩ : ByteArray).size ≤ maxLen := by
        show y.1.toArray.size ≤ maxLen
        rw [List.size_toArray]
        unfold maxLen
        omega
      rw [if_pos this]
    rw [← hyk]
    exact Go.WideElems.rd_mk (yv := (.nil, [])) hko rfl
  have hrg : es.toList.map (fun x => strOf (Go.WideElems.rg Tryz.prog 9 RZ x).1) = L.map (·.1) := by
    have h1 : es.toList.map (fun x => strOf (Go.WideElems.rg Tryz.prog 9 RZ x).1) = (es.toList.map (·.key)).map (fun v => match v with | .string s => s.data.toList | _ => []) := by
      rw [List.map_map]
      refine List.map_congr_left (fun x hx => ?_)
      obtain ⟨k, _, h2, h3⟩ := hread x hx
      rw [Go.WideElems.rg_of h3]
      simp only [Function.comp_def, h2, strOf, str]
    rw [h1, hkey, List.map_map]
    refine List.map_congr_left (fun x _ => ?_)
    simp [str]
  refine ⟨.map ((es.toList.map (Go.WideElems.rg Tryz.prog 9 RZ)).foldr DataW.insert []), ⟨es, clock, hb, ⟨by rw [hsz]; exact Nat.le_trans hl le64, ⟨hs.1, hs.2, ?_⟩, fun x hx => ?_⟩, by rw [hsz]; exact hl, rfl⟩, ?_, ?_⟩
  · rw [hkey]
    refine List.pairwise_map.2 ((List.pairwise_map.1 hn).imp (fun {a c} h e => h ?_))
    simpa [str] using e
  · obtain ⟨k, _, _, h3⟩ := hread x hx
    exact ⟨_, h3⟩
  · show ((_ : List (Lit × DataW Unit)).map fun p => strOf p.1).Perm _
    refine ((foldr_perm _).map _).trans ?_
    rw [List.map_map]
    exact List.Perm.of_eq hrg
  · show ((es.toList.map _).foldr DataW.insert []).length ≤ 64
    rw [(foldr_perm _).length_eq, List.length_map, Array.length_toList, hsz]
    exact hl
set_option maxRecDepth 100000 in
theorem sorts_in (m : Nat) : AnyZ.SortsIn Tryz.prog lSorted_ren Fence.wide m :=
  ⟨fun blk off cap ss W hH hblk hsz => callsIn_wide.2 (AnyM.slices_Sort_string lSort blk off cap ss W hH hblk hsz),
   fun p cap W => callsIn_wide.2 (AnyM.slices_Sort_string_none lSort p cap W)⟩
set_option maxRecDepth 100000 in
set_option maxHeartbeats 1000000 in
theorem keys_any (w : World) (p b : Nat) (L : List (Bytes × SV)) (hK : KAt w p b L) : Calls Tryz.prog 23 #[.pointer (some ⟨p, 0, none⟩)] w fun e w' => ∃ (A : Option Addr) (c : Nat), e = .returned (.slice A L.length c) ∧ Rd w' A (svs ((L.map (·.1)).mergeSort leB)) ∧ Frm (New w) w w' := by
  obtain ⟨D0, hown, hperm, hsize⟩ := owns_of hK.map hK.nd hK.klen hK.len
  have hp0 := hK.blk.cell 0
  simp only [List.getElem?_toArray, List.getElem?_cons_zero] at hp0
  have hlp := hK.blk.lt
  refine (callsIn_wide (n := 6)).1 ?_
  have hbl := hown.lt
  have hseq : SeqGives Fence.wide 2 Tryz.prog 59 #[.pointer (some ⟨w.heap.size, 0, none⟩)] encStr (fun ss => ss.Perm (strKeys D0)) (Maps.size D0) (w.alloc (.cells #[.map (some b)] 58)) :=
    AnyZ.keys_gives (ρ := lKeys_ren) { lKeys with } Fence.wide _ trivial rfl (by omega) w.heap.size b 64 D0 _ (by simp) (by simp) (by
      obtain ⟨es, clock, hb, Ft, hs, hD⟩ := hown
      exact ⟨es, clock, (Below.heap_alloc _ _ b hbl).trans hb, Ft, hs, hD⟩)
  have cK : ∀ mb W, CallsIn Fence.wide 5 Tryz.prog 42 #[.map mb] W fun e w' => e = .returned (.func (.func 59) #[] #[.pointer (some ⟨W.heap.size, 0, none⟩)]) ∧ w' = W.alloc (.cells #[.map mb] 58) := fun mb W => AnyZ.keys_in lKeys Fence.wide 5 trivial rfl mb W
  have cS := AnyZ.sorted_in lSorted Fence.wide 5 trivial trivial trivial trivial rfl (by omega) (sorts_in _) (enters_of Tryz.func58 (by kernel_rfl) rfl) 59 #[.pointer (some ⟨w.heap.size, 0, none⟩)] trivial (enters_of Tryz.func59 (by kernel_rfl) rfl) _ _ (Nat.le_trans hsize le64) (by omega) _ hseq
  change CallsIn _ _ Tryz.prog 41 _ _ _ at cS
  have hfK : Fence.wide.fn 42 := trivial
  have hfS : Fence.wide.fn 41 := trivial
  refine callsIn_of_wp Tryz.func23 rfl trivial ?_ rfl
  simp only [Tryz.ntmps23, List.size_toArray, List.length_cons, List.length_nil, Nat.reduceAdd, Nat.reduceSub, Array.replicate_succ, Array.replicate_zero, List.push_toArray, List.append_toArray, List.nil_append, List.cons_append]
  gi_wp2_with (first
    | (gi_at_call 42; refine (cK _ _).mono ?_; rintro e w' ⟨rfl, rfl⟩)
    | (gi_at_call 41; refine cS.mono ?_; rintro e w' ⟨v, ss, rfl, hS, hrow, hnil, hb⟩))
  go_ret
  have hF : Frm (New w) w w' := ((Frm.refl (New w) w).alloc Up.new _).then_new Up.new (Frm.of_below hb)
  have hpm : ss.Perm (L.map (·.1)) := hS.trans hperm
  have hml : ss.length = L.length := by rw [hpm.length_eq, List.length_map]
  have hms : ss.mergeSort leB = (L.map (·.1)).mergeSort leB := mergeSort_of_perm hpm
  obtain ⟨hlen, ⟨rfl, h0⟩ | ⟨g, cap, cur, rfl, hg, hblk, hc1, hc2, hc3, hc4⟩⟩ := hrow
  · have hL0 : L.length = 0 := by omega
    refine ⟨none, 0, by rw [hL0]; rfl, ?_, hF⟩
    have : L = [] := List.eq_nil_of_length_eq_zero hL0
    subst this
    rw [show ([] : List (Bytes × SV)).map (·.1) = [] from rfl, List.mergeSort_nil]
    exact Rd.nil
  · refine ⟨some ⟨g, 0, none⟩, cap, by rw [hml]; rfl, ?_, hF⟩
    have hB : Blk w' g 9 cur := hblk
    have hr := hB.rd.take (ss.length * 1)
    rw [hc4] at hr
    rw [← hms]
    exact hr
end Go.Proofs.YtpojejdddgdjdaaGreatDoor.M
