/- New, Get, At, Strings, Keys: what they return. Strings below 2^62. -/
import Derived.BigQuiet
import Derived.Deep.CutBlock
import Derived.Lib.Hide
import Derived.IntWalk
import Derived.Test.YtpojejdddgdjdaaGreatDoorHah
import Derived.Test.YtpojejdddgdjdaaGreatDoorLk
namespace Go.Proofs.YtpojejdddgdjdaaGreatDoor.M
open Go.ChangeShapes Go.WideShapes Go.ChangeAt Go.RowKit

set_option maxRecDepth 100000 in
set_option maxHeartbeats 2000000 in
theorem new_any (w : World) : Calls Tryz.prog 6 #[] w fun e w' => ∃ p b, e = .returned (.pointer (some ⟨p, 0, none⟩)) ∧ KAt w' p b [] ∧ w.heap.size ≤ p ∧ w.heap.size ≤ b ∧ Frm (New w) w w' := by
  go_enter Tryz.func6, Tryz.ntmps6
  go_wp2_with (refine wpList_makeMap str rfl rfl ?_; intro w6 hM6 hF6 hs6; clear hs6)
  go_ret
  refine ⟨w6.heap.size, w.heap.size, rfl, ⟨Blk.new w6 _ _, hM6.fresh ((Frm.refl _ w6).alloc Up.new _), (fun x h => by cases h), List.nodup_nil, Nat.zero_le _, (fun x h => by cases h), (fun x h => by cases h)⟩, hF6.size, Nat.le_refl _, hF6.alloc Up.new _⟩
set_option maxRecDepth 100000 in
set_option maxHeartbeats 2000000 in
theorem get_any (k : Bytes) (w : World) (p b : Nat) (L : List (Bytes × SV)) (hK : KAt w p b L) : Calls Tryz.prog 20 #[.pointer (some ⟨p, 0, none⟩), .string ⟨k.toArray⟩] w fun e w' => ∃ A c, e = .returned (.tuple #[.slice A ((getE k (sto L)).getD []).length c, .bool (getE k (sto L)).isSome]) ∧ Rd w' A (bvs ((getE k (sto L)).getD [])) ∧ Frm (New w) w w' := by
  have hlk := run_lookup skey uMp zBy hK.map k true
  have hgv : getE k (entsV L) = (getE k L).map SV.v := getE_map SV.v k L
  have hgs : getE k (sto L) = (getE k L).map (fun x => x.b) := getE_map (fun x : SV => x.b) k L
  rw [hgv] at hlk
  rw [hgs]
  have hp0 := hK.blk.cell 0
  simp only [List.getElem?_toArray, List.getElem?_cons_zero] at hp0
  have hlp := hK.blk.lt
  simp only [str, if_true] at hlk
  cases hge : getE k L with
  | none =>
    rw [hge] at hlk
    simp only [Option.map_none, Option.getD_none, Option.isSome_none] at hlk
    have hcl := bclone_any none 0 [] w Rd.nil (Nat.zero_le _)
    simp only [List.length_nil] at hcl
    clear hge hgv hgs
    have HCL := Lib.hid hcl
    have HK := Lib.hid hK
    clear hcl hK
    go_enter Tryz.func20, Tryz.ntmps20
    go_wp2_with (go_at_call 38; refine HCL.out.mono ?_; rintro e w3 ⟨A, c, rfl, hA, hF⟩)
    go_ret2
    exact ⟨A, c, rfl, hA.rd, hF⟩
  | some s =>
    have hm : (k, s) ∈ L := by
      unfold getE at hge
      cases hi : idx k L 0 with
      | none => rw [hi] at hge; cases hge
      | some q =>
        obtain ⟨j, v⟩ := q
        rw [hi] at hge
        cases hge
        obtain ⟨_, _, h3⟩ := idx_lt_ k L 0 j _ hi
        exact List.mem_of_getElem? h3
    have hcl := bclone_any s.A s.c s.b w (hK.val _ hm) (hK.small _ hm)
    rw [hge] at hlk
    simp only [Option.map_some, Option.getD_some, Option.isSome_some, SV.v] at hlk
    obtain ⟨sA, sc, sb⟩ := s
    simp only at hcl hlk
    clear hge hgv hgs hm
    have HCL := Lib.hid hcl
    have HK := Lib.hid hK
    clear hcl hK
    go_enter Tryz.func20, Tryz.ntmps20
    go_wp2_with (go_at_call 38; refine HCL.out.mono ?_; rintro e w3 ⟨A, c, rfl, hA, hF⟩)
    go_ret2
    exact ⟨A, c, rfl, hA.rd, hF⟩
set_option maxRecDepth 100000 in
set_option maxHeartbeats 2000000 in
theorem at_any (A1 : Option Addr) (c1 : Nat) (fs : List Fld) (A2 : Option Addr) (n2 c2 : Nat) (A3 : Option Addr) (n3 c3 : Nat) (i : Nat) (w : World) (hR : Rd w A1 (fvs fs)) (hi : i < fs.length) : Calls Tryz.prog 21 #[.agg #[.slice A1 fs.length c1, .slice A2 n2 c2, .slice A3 n3 c3], .int .i64 (i : Int)] w fun e w' => e = .returned (.string ⟨fs[i].2.toArray⟩) ∧ Frm (New w) w w' := by
  obtain ⟨g, off, rfl, hx⟩ := hR.at_ (k := i * 2) (by rw [fvs_length]; omega)
  clear hx
  have hF := (Frm.refl (New w) w).alloc Up.new (.cells #[.slice (some ⟨g, off, none⟩) fs.length c1, .slice A2 n2 c2, .slice A3 n3 c3] 30)
  have hR2 := hR.fresh hF
  obtain ⟨hc1, hc2⟩ := fld_cells hR2 i hi
  generalize fs[i] = f at *
  obtain ⟨fa, fb⟩ := f
  simp only [str] at hc1 hc2
  have hii : ¬ (fs.length : Int) ≤ (i : Int) := by omega
  have hii2 : (i : Int) < (fs.length : Int) := by omega
  clear hR hR2 hc1
  have HF := Lib.hid hF
  clear hF
  go_enter Tryz.func21, Tryz.ntmps21
  go_wp2_with (fail)
  go_ret
  exact ⟨rfl, HF.out⟩
set_option maxRecDepth 100000 in
set_option maxHeartbeats 2000000 in
theorem strings_eq (l : List Bytes) (A B : Option Addr) (c d : Nat) (w : World) (hA : Rd w A (svs l)) (hB : Rd w B (svs l)) (hl : l.length ≤ 4611686018427387903) :
    Calls Tryz.prog 22 #[.slice A l.length c, .slice B l.length d] w fun e w' => e = .returned (.bool true) ∧ Frm (New w) w w' := by
  have HA := Lib.hid hA
  have HB := Lib.hid hB
  clear hA hB
  go_enter Tryz.func22, Tryz.ntmps22
  go_wp2
  go_loopw [5] (fun v5 wr => ∃ k : Nat, k ≤ l.length ∧ v5 = .int .i64 k ∧ ∃ q, wr = w.drewN q) (fun v5 _ => l.length - (intOf v5).toNat)
  case atStart => exact ⟨0, Nat.zero_le _, rfl, 0, rfl⟩
  case round =>
    obtain ⟨k, hk, rfl, q, rfl⟩ := hrel
    by_cases hlt : k < l.length
    · obtain ⟨gA, oA, rfl, hcA⟩ := HA.out.at_ (k := k) (by simpa [svs] using hlt)
      obtain ⟨gB, oB, rfl, hcB⟩ := HB.out.at_ (k := k) (by simpa [svs] using hlt)
      simp only [svs, List.getElem_map, str] at hcA hcB
      generalize l[k] = s at *
      go_wp2
      go_quiet (fail)
      go_wp2
      all_goals first
        | (go_roundw
           case rel => exact ⟨k + 1, by omega, by go_num, _, rfl⟩
           case measure => simp [intOf]; omega)
    · obtain rfl : k = l.length := by omega
      go_wp2
      go_ret
      exact ⟨rfl, (Frm.refl _ w).drewN q⟩
end Go.Proofs.YtpojejdddgdjdaaGreatDoor.M
