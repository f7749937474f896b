/- On -/
import Derived.BigQuiet
import Derived.Lib.Hide
import Derived.IntWalk
import Derived.Test.YtdgggjeiflllhaaZzOc
import Derived.Test.YtdgggjeiflllhaaZzPg
import Derived.Test.YtdgggjeiflllhaaZzNq

namespace Go.Proofs.Ytdgggjeiflllhaa.M
open Go.ChangeShapes Go.WideShapes Go.ChangeAt Go.RowKit
def OqNew (w : World) (c b : Nat) (e : Ending) (w' : World) : Prop := ∃ (X : Nat → Prop) (pe g : Nat) (S : Nat → Prop), e = .returned (.pointer (some ⟨pe, 0, none⟩)) ∧ OnM X w' pe g S none 0 [] none 0 (Qn.new c b) ∧ Frm (New w) w w' ∧ ∀ k, X k → w.heap.size ≤ k
theorem onew_end {S : Nat → Prop} {w w2 : World} {g c b : Nat} {v : Int} (hT : RTabAt S w2 g [] 0 c none 0) (hF : Frm (New w) w w2) (hS : ∀ k, S k → w.heap.size ≤ k) (hv : v = (b : Int)) (hle : c ≤ 4096) (hbl : b ≤ 9223372036854775807) :
    OqNew w c b (.returned (.pointer (some ⟨w2.heap.size, 0, none⟩))) (w2.alloc (.cells #[.pointer (some ⟨g, 0, none⟩), .int .i64 v, .int .u64 0, .slice none 0 0, .slice none 0 0, .int .i64 0, .bool false] 51)) := by
  subst hv
  have hF2 : Frm (New w2) w2 (w2.alloc (.cells #[.pointer (some ⟨g, 0, none⟩), .int .i64 (b : Int), .int .u64 0, .slice none 0 0, .slice none 0 0, .int .i64 0, .bool false] 51)) := (Frm.refl _ _).alloc Up.new _
  have hB := Blk.new w2 51 #[.pointer (some ⟨g, 0, none⟩), .int .i64 (b : Int), .int .u64 0, .slice none 0 0, .slice none 0 0, .int .i64 0, .bool false]
  have hlow := hT.low
  have hT2 := hT.fresh hF2
  refine ⟨fun k => S k ∨ k = w2.heap.size, w2.heap.size, g, S, rfl, ?_, hF.then_new Up.new hF2, fun k hk => ?_⟩
  · exact {
      blk := hB
      tab := ⟨none, 0, hT2⟩
      opn := App.none_, oc := Nat.le_refl _, om := Nat.zero_le _, same := rfl
      use_ := fun y hy => by cases hy
      rest := App.none_, rc := Nat.le_refl _, rm := Nat.zero_le _
      low := fun k hk => by
        rcases hk with hk | hk
        · exact Nat.lt_of_lt_of_le (hlow k hk) hF2.size
        · exact hk ▸ hB.lt
      xp := .inr rfl, xs := fun k hk => .inl hk
      ps := fun e => Nat.lt_irrefl _ (hlow _ e)
      ro := fun k hk => by cases hk
      rr := fun k hk => by cases hk
      ru := fun y hy => by cases hy
      ok := ⟨Nat.le_refl _, Nat.zero_le _⟩
      cap := hle, nb := Nat.zero_le _, kn := Nat.le_refl _, ctn := fun o ho => (by cases ho), ol := Nat.zero_le _, bl := hbl, rl := Nat.zero_le _ }
  · rcases hk with hk | hk
    · exact hS k hk
    · exact hk ▸ hF.size
set_option maxRecDepth 100000 in
set_option maxHeartbeats 1000000 in
theorem onew_any (n k : Int) (n0 : -9223372036854775808 ≤ n) (n1 : n ≤ 9223372036854775807) (k0 : -9223372036854775808 ≤ k) (k1 : k ≤ 9223372036854775807) (w : World) :
    Calls Try.prog 21 #[.int .i64 n, .int .i64 k] w (OqNew w (lim n) (max k 0).toNat) := by
  have hm : ((max k 0).toNat : Int) = max k 0 := by omega
  have hle := lim_le n
  have hbl : (max k 0).toNat ≤ 9223372036854775807 := by omega
  have hcl := fun w' => clamp8_any n n0 n1 w'
  generalize lim n = c at *
  generalize (max k 0).toNat = b at *
  have hnw := fun w' => rtnew_any c (by omega) w'
  have HM := Lib.hid hm
  have HLE := Lib.hid hle
  have HNW := Lib.hid hnw
  have HCL := Lib.hid hcl
  have HBL := Lib.hid hbl
  clear hm hle hnw hcl hbl
  go_enter Try.func21, Try.ntmps21
  go_wp2_with (fail)
  refine (HCL.out w).mono ?_
  rintro e w3 ⟨rfl, hw3⟩
  rw [hw3]
  clear hw3 w3
  go_wp2_with (fail)
  refine (HNW.out w).mono ?_
  rintro e w2 ⟨S, g, rfl, hT, hF, hS⟩
  have HT := Lib.hid hT
  have HF := Lib.hid hF
  have HS := Lib.hid hS
  clear hT hF hS
  go_wp2_with (fail)
  all_goals go_ret
  all_goals
    refine onew_end HT.out HF.out HS.out ?_ HLE.out HBL.out
    have := HM.out
    omega
end Go.Proofs.Ytdgggjeiflllhaa.M

