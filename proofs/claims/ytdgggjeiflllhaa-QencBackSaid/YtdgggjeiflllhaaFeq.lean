/- bifoldhelp.Fields of alike lists; arguments that are slices of uint16, that are fields. No condition. -/
import Derived.Deep.RegionWith
import Derived.ChangeSame
import Derived.SizedLaws
import Derived.Test.YtdgggjeiflllhaaEncp
import Derived.Test.YtdgggjeiflllhaaIn
namespace Go.Proofs.Ytdgggjeiflllhaa.M
open Go.ChangeShapes Go.WideShapes Go.ChangeAt Go.RowKit

def strOf : Value → Bytes
  | .string s => s.data.toList
  | _ => []
theorem str_strOf (s : ByteArray) : str (strOf (.string s)) = .string s := by
  show Value.string ⟨s.data.toList.toArray⟩ = _
  rw [Array.toArray_toList]

def fN : Field := { name := "Name", type := 9, offset := 0, embedded := false, tag := "", pkgPath := "", byteOffset := 0 }
def fV : Field := { name := "Value", type := 9, offset := 1, embedded := false, tag := "", pkgPath := "", byteOffset := 16 }


set_option maxRecDepth 100000 in
set_option maxHeartbeats 1000000 in
theorem fields_eq (l : List Fld) (A B : Option Addr) (c d : Nat) (w : World) (hA : Rd w A (fvs l)) (hB : Rd w B (fvs l)) (hl : l.length ≤ 1152921504606846976) :
    Calls Try.prog 17 #[.slice A l.length c, .slice B l.length d] w fun e w' => e = .returned (.bool true) ∧ ∃ n, w' = w.drewN n := by
  have HA := Lib.hid hA
  have HB := Lib.hid hB
  clear hA hB
  go_enter Try.func17, Try.ntmps17
  go_wp2
  go_loopw [5] (fun i wr => ∃ k : Nat, k ≤ l.length ∧ i = .int .i64 k ∧ ∃ q, wr = w.drewN q) (fun i _ => l.length - (intOf i).toNat)
  case atStart => exact ⟨0, Nat.zero_le _, rfl, 0, rfl⟩
  case round =>
    obtain ⟨k, hk, rfl, q, rfl⟩ := hrel
    by_cases hlt : k < l.length
    · obtain ⟨gA, oA, rfl, hx⟩ := HA.out.at_ (k := k * 2) (by rw [fvs_length]; omega)
      obtain ⟨gB, oB, rfl, hy⟩ := HB.out.at_ (k := k * 2) (by rw [fvs_length]; omega)
      clear hx hy
      obtain ⟨ha1, ha2⟩ := fld_cells HA.out k hlt
      obtain ⟨hb1, hb2⟩ := fld_cells HB.out k hlt
      generalize l[k] = f at *
      obtain ⟨f1, f2⟩ := f
      simp only [str] at ha1 ha2 hb1 hb2
      go_wp2
      go_quiet (fail)
      go_wp2
      all_goals first
        | (go_roundw
           case rel => exact ⟨k + 1, by omega, by go_num, _, rfl⟩
           case measure => simp [intOf]; omega)
    · obtain rfl : k = l.length := by omega
      go_wp2
      go_ret
      exact ⟨rfl, _, rfl⟩

/-- numbers of sixteen bits as cells -/
def u16s_ (l : List Nat) : List Value := l.map fun v : Nat => Value.int .u16 (v : Int)
structure UIn (W : World) (A : Option Addr) (n c : Nat) (l : List Nat) : Prop where
  len : n = l.length
  rd : Rd W A (u16s_ l)
  small : ∀ v ∈ l, v ≤ 65535
  cap : n ≤ c

set_option maxRecDepth 100000 in
theorem is_fld {W : World} {H : Type} {enc : TypeId × Value → H} {base base2 : Nat} {r : Reach} {spare : Nat → Bool} {held : Bool} {v : Value} {d : DataW H} {p : List MemPlace} (hv : Value.okWide Try.prog W r base2 71 v)
    (ht : DataW.Trod enc Try.prog W base spare held 71 v d p) (hw : ∀ n ∈ d.weights Try.prog 71, n ≤ reachBytes) : ∃ f : Fld, v = fld f ∧ f.1.length ≤ 1125899906842624 ∧ f.2.length ≤ 1125899906842624 := by
  obtain ⟨cs, rfl, hcs⟩ := okWide_struct Try.underlying71 hv
  obtain ⟨fuel, ht⟩ := ht
  obtain ⟨y0, y1, n, hx, hl, h0, h1⟩ := trod_struct2 (f0 := fN) (f1 := fV) Try.underlying71 ht
  have hc2 : Try.prog.cellsOf 71 = 2 := by kernel_rfl
  have hc1 : Try.prog.cellsOf 9 = 1 := by kernel_rfl
  rw [hc2] at hl
  obtain ⟨s0, e0, d0, _⟩ := DataW.trod_string Try.underlying9 h0
  obtain ⟨s1, e1, d1, _⟩ := DataW.trod_string Try.underlying9 h1
  have hcs2 : cs.toList.length = 2 := hl
  obtain ⟨a, b, hab⟩ : ∃ a b, cs.toList = [a, b] := by
    match hq : cs.toList, hcs2 with
    | [a, b], _ => exact ⟨a, b, rfl⟩
  have hq0 : ((cs.toList.drop 0).take (Try.prog.cellsOf 9)) = [.string s0] := e0
  have hq1 : ((cs.toList.drop 1).take (Try.prog.cellsOf 9)) = [.string s1] := e1
  rw [hab, hc1] at hq0 hq1
  simp only [List.drop_zero, List.take_succ_cons, List.take_zero, List.drop_succ_cons, List.cons.injEq, and_true] at hq0 hq1
  subst hq0
  subst hq1
  have hcse : cs = #[.string s0, .string s1] := by
    apply Array.ext'
    rw [hab]
  subst hcse
  simp only [Prod.mk.injEq] at hx
  obtain ⟨rfl, _⟩ := hx
  rw [d0, d1] at hw
  simp only [DataW.weights, Try.underlying71] at hw
  refine ⟨(strOf (.string s0), strOf (.string s1)), ?_, ?_, ?_⟩
  · show Value.agg #[.string s0, .string s1] = .agg #[str (strOf (.string s0)), str (strOf (.string s1))]
    rw [str_strOf, str_strOf]
  · have h9 : (strOf (.string s0)).length ≤ reachBytes := hw _ (by simp [DataW.weightsEach, DataW.weights, strOf])
    exact Nat.le_trans h9 (by decide)
  · have h9 : (strOf (.string s1)).length ≤ reachBytes := hw _ (by simp [DataW.weightsEach, DataW.weights, strOf])
    exact Nat.le_trans h9 (by decide)
end Go.Proofs.Ytdgggjeiflllhaa.M
