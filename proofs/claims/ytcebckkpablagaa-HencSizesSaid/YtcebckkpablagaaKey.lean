/- Strings and fields as keys and as values that are compared. No condition. -/
import Derived.Test.YtcebckkpablagaaMap
import Derived.Test.YtcebckkpablagaaNum
import Derived.Laws.StructEq
namespace Go.Proofs.Ytcebckkpablagaa.M
open Go.ChangeShapes Go.WideShapes Go.ChangeAt Go.RowKit

abbrev Bytes := List UInt8
/-- a string's value -/
def str (l : Bytes) : Value := .string ⟨l.toArray⟩
/-- a field: name, value -/
abbrev Fld := Bytes × Bytes
def fld (f : Fld) : Value := .agg #[str f.1, str f.2]

theorem mk_toList (a : Bytes) : (⟨a.toArray⟩ : ByteArray).toList = a := by rw [ByteArray.toList_eq]
theorem str_beq (a b : Bytes) : ((⟨a.toArray⟩ : ByteArray) == ⟨b.toArray⟩) = decide (a = b) := by
  rw [beq_toListBytes, mk_toList, mk_toList]
  by_cases h : a = b <;> simp [h]
theorem u9 : Try.prog.underlying 9 = some .string := Try.underlying9

theorem check_plain (P : Program) (T : TypeId) (n : Nat) (e : Bool) (l : Bytes) (w : World) (h : P.underlying T = some .string) : (Instr.checkKey e (n + 1) T (str l)).run P w = .ok () w := by
  simp [Instr.checkKey, run_underlying h, str]

theorem skey : KeyLaw Try.prog 9 str where
  check := fun e k w => check_plain _ _ 9999 e k w u9
  find := find_now u9 (fun a b => by simp only [Instr.sameNow, str]; rw [str_beq])
  same := fun k => by
    show ((⟨k.toArray⟩ : ByteArray) == ⟨k.toArray⟩) = true
    rw [str_beq]; simp

theorem run_eq_str (a b : Bytes) (d : Nat) (w : World) : (Op.equalIn (d + 1) 9 (str a) (str b)).run Try.prog w = .ok (decide (a = b)) w := by
  unfold str
  rw [run_equalIn_string w d _ _ _ u9, mk_toList, mk_toList]
  congr 1
  by_cases h : a = b <;> simp [h]

theorem part9 (cs : Array Value) (i : Nat) (v : Value) (h : cs[i]? = some v) (w : World) : (part 9 cs i).run Try.prog w = .ok v w := by
  simp [part, isAgg, run_underlying u9, h]

theorem run_eq_fld (a b : Fld) (w : World) : (Op.equalIn 10000 30 (fld a) (fld b)).run Try.prog w = .ok (decide (a = b)) w := by
  unfold fld
  have hf : Try.prog.fieldsOf 30 = #[{ name := "Name", type := 9, offset := 0, embedded := false, tag := "", pkgPath := "", byteOffset := 0 }, { name := "Value", type := 9, offset := 1, embedded := false, tag := "", pkgPath := "", byteOffset := 16 }] := by
    unfold Program.fieldsOf; rw [Try.underlying30]
  rw [run_equalIn_struct w 9999 30 _ _ (by rw [hf]; exact Try.underlying30) (by kernel_rfl), hf]
  simp only [Op.eqFields, Sem.run_bind, part9 #[str a.1, str a.2] 0 (str a.1) rfl, part9 #[str b.1, str b.2] 0 (str b.1) rfl, part9 #[str a.1, str a.2] 1 (str a.2) rfl, part9 #[str b.1, str b.2] 1 (str b.2) rfl, Result.andThen_ok,
    run_eq_str _ _ 9998, Sem.run_ite, Sem.run_pure]
  obtain ⟨a1, a2⟩ := a
  obtain ⟨b1, b2⟩ := b
  by_cases h1 : a1 = b1 <;> by_cases h2 : a2 = b2 <;> simp [h1, h2]

theorem check_fld (n : Nat) (e : Bool) (k : Fld) (w : World) : (Instr.checkKey e (n + 1 + 1) 30 (fld k)).run Try.prog w = .ok () w := by
  have h1 := check_plain Try.prog 9 n e k.1 w u9
  have h2 := check_plain Try.prog 9 n e k.2 w u9
  unfold fld
  unfold Instr.checkKey
  simp only [Sem.run_bind, run_underlying Try.underlying30, Result.andThen_ok]
  rw [← Array.forIn_toList]
  simp only [List.forIn_cons, List.forIn_nil, Sem.run_bind, Sem.run_ite, part9 #[str k.1, str k.2] 0 (str k.1) rfl, Result.andThen_ok, Sem.run_pure]
  simp [h1]
  rw [part9 #[str k.1, str k.2] 1 (str k.2) rfl]
  simp [h2]

theorem fkey : KeyLaw Try.prog 30 fld where
  check := fun e k w => check_fld 9998 e k w
  find := find_asking Try.underlying30 (fun a b => rfl) (fun a b w => run_eq_fld a b w)
  same := fun k => by
    show ((#[str k.1, str k.2] : Array Value).size == (#[str k.1, str k.2] : Array Value).size && _) = true
    simp [str, Instr.sameBits, str_beq]
end Go.Proofs.Ytcebckkpablagaa.M
