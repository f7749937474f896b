/- In, Qkt, Feq -/
import Derived.Test.YtdgggjeiflllhaaZyKey
import Derived.Laws.IdiomStrings
import Derived.ChangeSlices
import Derived.Test.YtdgggjeiflllhaaZyRnum
import Derived.Test.YtdgggjeiflllhaaZyMem
import Derived.Test.YtdgggjeiflllhaaZyArr
import Derived.Test.YtdgggjeiflllhaaZyTab
import Derived.Deep.RegionWith
import Derived.ChangeSame
import Derived.SizedLaws
import Derived.Test.YtdgggjeiflllhaaZyEncp

namespace Go.Proofs.Ytdgggjeiflllhaa.M
open Go.ChangeShapes Go.WideShapes Go.ChangeAt Go.RowKit
theorem run_conv {w : World} {A : Option Addr} {l : Bytes} {c : Nat} (h : Rd w A (bvs l)) : (convert 23 9 (.slice A l.length c)).run Try.prog w = .ok (str l) w := by
  cases A with
  | none =>
    have hl : l = [] := by
      cases l with
      | nil => rfl
      | cons x r => obtain ⟨g, off, e, _⟩ := h 0 _ rfl; cases e
    subst hl
    have h1 := run_convert_bytes_string (P := Try.prog) w 23 9 5 none 0 c Try.underlying23 Try.underlying5 Try.underlying9
    rw [show ([] : Bytes).length = 0 from rfl, h1]
    simp [Conv.bytesToString]
    rfl
  | some a =>
    refine run_convert_bytes_back w _ _ _ a c l Try.underlying23 Try.underlying5 Try.underlying9 (fun j hj => ?_)
    exact rd_addr h j _ (by simp [bvs, bv, List.getElem?_eq_getElem hj])
section
variable {ops : Array Oper} {rest : List Oper} {o : Oper} {a : Act} {Q : Exit → Act → World → Prop} {w : World}
end
end Go.Proofs.Ytdgggjeiflllhaa.M
namespace Go.Proofs.Ytdgggjeiflllhaa.M
open Go.ChangeShapes Go.WideShapes Go.ChangeAt Go.RowKit
end Go.Proofs.Ytdgggjeiflllhaa.M
namespace Go.Proofs.Ytdgggjeiflllhaa.M
open Go.ChangeShapes Go.WideShapes Go.ChangeAt Go.RowKit
theorem App.in_ {M M' : Nat → Prop} {w : World} {e size n c : Nat} {A : Option Addr} {xs : List Value} (h : App M w e size A n c xs) (hM : ∀ k, blk A = some k → M' k) : App M' w e size A n c xs :=
  { h with
    inM := hM
    own := fun hn => by
      obtain ⟨g, off, cur, a, b, d, _⟩ := h.own hn
      exact ⟨g, off, cur, a, b, d, hM g (by rw [a]; rfl)⟩ }
section
variable {P : Program} {M : Nat → Prop} {t e : TypeId} {size bytes : Nat}
variable {ops : Array Oper} {rest : List Oper} {o : Oper} {a : Act} {Q : Exit → Act → World → Prop} {w : World}
end
end Go.Proofs.Ytdgggjeiflllhaa.M
namespace Go.Proofs.Ytdgggjeiflllhaa.M
open Go.ChangeShapes Go.WideShapes Go.ChangeAt Go.RowKit
structure QKept (w : World) (X : Nat → Prop) (A : Option Addr) (xs : List Value) : Prop where
  rd : Rd w A xs
  far : ∀ k, M.blk A = some k → ¬ X k ∧ k < w.heap.size
section
variable {w w' : World} {X X' : Nat → Prop} {A : Option Addr} {xs : List Value}
theorem QKept.keep (h : QKept w X A xs) (f : Frm (Own X w) w w') (hs : ∀ k, X' k → Own X w k) : QKept w' X' A xs := by
  refine ⟨h.rd.keep f (fun k hk q => ?_), fun k hk => ⟨fun q => ?_, Nat.lt_of_lt_of_le (h.far k hk).2 f.size⟩⟩
  · have h1 := h.far k hk
    rcases q with q | q
    · exact h1.1 q
    · omega
  · have h1 := h.far k hk
    rcases hs k q with q | q
    · exact h1.1 q
    · omega
theorem QKept.fresh (h : QKept w X A xs) (f : Frm (New w) w w') : QKept w' X A xs := ⟨h.rd.fresh f, fun k hk => ⟨(h.far k hk).1, Nat.lt_of_lt_of_le (h.far k hk).2 f.size⟩⟩
end
end Go.Proofs.Ytdgggjeiflllhaa.M
namespace Go.Proofs.Ytdgggjeiflllhaa.M
open Go.ChangeShapes Go.WideShapes Go.ChangeAt Go.RowKit
def strOf : Value → Bytes
  | .string s => s.data.toList
  | _ => []
theorem str_strOf (s : ByteArray) : str (strOf (.string s)) = .string s := by
  show Value.string ⟨s.data.toList.toArray⟩ = _
  rw [Array.toArray_toList]
set_option maxRecDepth 100000 in
set_option maxHeartbeats 1000000 in
theorem fields_eq (l : List Fld) (A B : Option Addr) (c d : Nat) (w : World) (hA : Rd w A (fvs l)) (hB : Rd w B (fvs l)) (hl : l.length ≤ 1152921504606846976) :
    Calls Try.prog 17 #[.slice A l.length c, .slice B l.length d] w fun e w' => e = .returned (.bool true) ∧ ∃ n, w' = w.drewN n := by
  have HA := Lib.hid hA
  have HB := Lib.hid hB
  clear hA hB
  go_enter Try.func17, Try.ntmps17
  go_wp2
  go_loopw [5] (fun i wr => ∃ k : Nat, k ≤ l.length ∧ i = .int .i64 k ∧ ∃ q, wr = w.drewN q) (fun i _ => l.length - (intOf i).toNat)
  case atStart => exact ⟨0, Nat.zero_le _, rfl, 0, rfl⟩
  case round =>
    obtain ⟨k, hk, rfl, q, rfl⟩ := hrel
    by_cases hlt : k < l.length
    · obtain ⟨gA, oA, rfl, hx⟩ := HA.out.at_ (k := k * 2) (by rw [fvs_length]; omega)
      obtain ⟨gB, oB, rfl, hy⟩ := HB.out.at_ (k := k * 2) (by rw [fvs_length]; omega)
      clear hx hy
      obtain ⟨ha1, ha2⟩ := fld_cells HA.out k hlt
      obtain ⟨hb1, hb2⟩ := fld_cells HB.out k hlt
      generalize l[k] = f at *
      obtain ⟨f1, f2⟩ := f
      simp only [str] at ha1 ha2 hb1 hb2
      go_wp2
      go_quiet (fail)
      go_wp2
      all_goals first
        | (go_roundw
           case rel => exact ⟨k + 1, by omega, by go_num, _, rfl⟩
           case measure => simp [intOf]; omega)
    · obtain rfl : k = l.length := by omega
      go_wp2
      go_ret
      exact ⟨rfl, _, rfl⟩
end Go.Proofs.Ytdgggjeiflllhaa.M

