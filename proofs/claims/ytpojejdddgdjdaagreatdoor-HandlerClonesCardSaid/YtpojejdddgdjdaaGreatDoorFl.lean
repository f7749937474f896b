/- Strings, fields as keys and as values that are compared; how great fields are. No condition. -/
import Derived.Test.YtpojejdddgdjdaaGreatDoorStr
import Derived.Test.YtpojejdddgdjdaaGreatDoorMap
import Derived.Laws.StructEq
import Derived.BigQuiet
namespace Go.Proofs.YtpojejdddgdjdaaGreatDoor.M
open Go.ChangeShapes Go.WideShapes Go.ChangeAt Go.RowKit

/-- a field: name, value -/
abbrev Fld := Bytes × Bytes
def fld (f : Fld) : Value := .agg #[str f.1, str f.2]

theorem u9 : Tryz.prog.underlying 9 = some .string := Tryz.underlying9

theorem check_plain (P : Program) (T : TypeId) (n : Nat) (e : Bool) (l : Bytes) (w : World) (h : P.underlying T = some .string) : (Instr.checkKey e (n + 1) T (str l)).run P w = .ok () w := by
  simp [Instr.checkKey, run_underlying h, str]

theorem skey : KeyLaw Tryz.prog 9 str where
  check := fun e k w => check_plain _ _ 9999 e k w u9
  find := find_now u9 (fun a b => by simp only [Instr.sameNow, str]; rw [str_beq])
  same := fun k => by
    show ((⟨k.toArray⟩ : ByteArray) == ⟨k.toArray⟩) = true
    rw [str_beq]; simp

theorem run_eq_str (a b : Bytes) (d : Nat) (w : World) : (Op.equalIn (d + 1) 9 (str a) (str b)).run Tryz.prog w = .ok (decide (a = b)) w := by
  unfold str
  rw [run_equalIn_string w d _ _ _ u9, mk_toList, mk_toList]
  congr 1
  by_cases h : a = b <;> simp [h]

theorem part9 (cs : Array Value) (i : Nat) (v : Value) (h : cs[i]? = some v) (w : World) : (part 9 cs i).run Tryz.prog w = .ok v w := by
  simp [part, isAgg, run_underlying u9, h]

theorem run_eq_fld (a b : Fld) (w : World) : (Op.equalIn 10000 38 (fld a) (fld b)).run Tryz.prog w = .ok (decide (a = b)) w := by
  unfold fld
  have hf : Tryz.prog.fieldsOf 38 = #[{ name := "Name", type := 9, offset := 0, embedded := false, tag := "", pkgPath := "", byteOffset := 0 }, { name := "Value", type := 9, offset := 1, embedded := false, tag := "", pkgPath := "", byteOffset := 16 }] := by
    unfold Program.fieldsOf; rw [Tryz.underlying38]
  rw [run_equalIn_struct w 9999 38 _ _ (by rw [hf]; exact Tryz.underlying38) (by kernel_rfl), hf]
  simp only [Op.eqFields, Sem.run_bind, part9 #[str a.1, str a.2] 0 (str a.1) rfl, part9 #[str b.1, str b.2] 0 (str b.1) rfl, part9 #[str a.1, str a.2] 1 (str a.2) rfl, part9 #[str b.1, str b.2] 1 (str b.2) rfl, Result.andThen_ok,
    run_eq_str _ _ 9998, Sem.run_ite, Sem.run_pure]
  obtain ⟨a1, a2⟩ := a
  obtain ⟨b1, b2⟩ := b
  by_cases h1 : a1 = b1 <;> by_cases h2 : a2 = b2 <;> simp [h1, h2]

def fvs (l : List Fld) : List Value := l.flatMap fun f => [str f.1, str f.2]
theorem build_fld {o : Oper} {a : Act} {w : World} {s1 s2 : ByteArray} (ho : o.op = .build 38 #[(0, .const (.string s1)), (1, .const (.string s2))]) :
    (execOp a.eval o).run Tryz.prog w = .ok (.value (.agg #[.string s1, .string s2])) w := by
  unfold execOp
  rw [ho]
  kernel_rfl
theorem fvs_length (l : List Fld) : (fvs l).length = 2 * l.length := by
  induction l with
  | nil => rfl
  | cons f l ih => simp only [fvs, List.flatMap_cons, List.length_append, List.length_cons, List.length_nil] at ih ⊢; omega
theorem fvs_append (l k : List Fld) : fvs (l ++ k) = fvs l ++ fvs k := by simp [fvs]
theorem fvs_one (l : List Fld) : ∀ u ∈ fvs l, u.oneCell' = true := fun u hu => by
  obtain ⟨p, _, hp⟩ := List.mem_flatMap.1 hu
  simp at hp
  rcases hp with rfl | rfl <;> rfl
theorem fvs_get : ∀ (l : List Fld) (i : Nat) (h : i < l.length), (fvs l)[i * 2]? = some (str l[i].1) ∧ (fvs l)[i * 2 + 1]? = some (str l[i].2)
  | [], i, h => by simp at h
  | p :: l, 0, _ => by simp [fvs]
  | p :: l, i + 1, h => by
    have ih := fvs_get l i (by simpa using h)
    simp only [fvs, List.flatMap_cons] at ih ⊢
    rw [show (i + 1) * 2 = i * 2 + 2 from by omega]
    exact ⟨ih.1, ih.2⟩
/-- what a field, fields count -/
def fsize (f : Fld) : Nat := f.1.length + f.2.length + 32
def fsizes (l : List Fld) : Nat := (l.map fsize).sum
theorem fsizes_snoc (l : List Fld) (f : Fld) : fsizes (l ++ [f]) = fsizes l + fsize f := by simp [fsizes]
theorem fsizes_take (l : List Fld) (k : Nat) (h : k < l.length) : fsizes (l.take (k + 1)) = fsizes (l.take k) + fsize l[k] := by
  rw [List.take_succ_eq_append_getElem h, fsizes_snoc]
theorem fsizes_append (l k : List Fld) : fsizes (l ++ k) = fsizes l + fsizes k := by simp [fsizes]
theorem fsizes_le (l : List Fld) (k : Nat) : fsizes (l.take k) ≤ fsizes l := by
  have h : fsizes l = fsizes (l.take k) + fsizes (l.drop k) := by rw [← fsizes_append, List.take_append_drop]
  omega
theorem fld_cells {w : World} {g off : Nat} {l : List Fld} (h : Rd w (some ⟨g, off, none⟩) (fvs l)) (k : Nat) (hk : k < l.length) :
    w.cell? ⟨g, off + k * 2, none⟩ = some (str l[k].1) ∧ w.cell? ⟨g, off + k * 2 + 1, none⟩ = some (str l[k].2) := by
  obtain ⟨h1, h2⟩ := fvs_get l k hk
  obtain ⟨g1, o1, e1, c1⟩ := h _ _ h1
  obtain ⟨g2, o2, e2, c2⟩ := h _ _ h2
  simp only [Option.some.injEq, Addr.mk.injEq] at e1 e2
  obtain ⟨rfl, rfl, _⟩ := e1
  obtain ⟨rfl, rfl, _⟩ := e2
  exact ⟨c1, c2⟩
theorem str_size (b : Bytes) : (⟨b.toArray⟩ : ByteArray).size = b.length := by show b.toArray.size = _; simp

set_option maxRecDepth 100000 in
set_option maxHeartbeats 1000000 in
theorem rsize_any (l : List Fld) (A : Option Addr) (c : Nat) (w : World) (hR : Rd w A (fvs l)) (hb : fsizes l ≤ 4611686018427387903) (hl : l.length ≤ 4611686018427387903) :
    Calls Tryz.prog 43 #[.slice A l.length c] w fun e w' => e = .returned (.int .i64 (fsizes l : Nat)) ∧ ∃ n, w' = w.drewN n := by
  go_enter Tryz.func43, Tryz.ntmps43
  go_wp2
  have HR := Lib.hid hR
  clear hR
  go_loopw [3, 4] (fun n i wr => ∃ k : Nat, k ≤ l.length ∧ i = .int .i64 k ∧ n = .int .i64 (fsizes (l.take k) : Nat) ∧ ∃ q, wr = w.drewN q) (fun _ i _ => l.length - (intOf i).toNat)
  case atStart => exact ⟨0, Nat.zero_le _, rfl, rfl, 0, rfl⟩
  case round =>
    obtain ⟨k, hk, rfl, rfl, q, rfl⟩ := hrel
    by_cases hlt : k < l.length
    · have hRd := HR.out
      obtain ⟨g, off, rfl, hx⟩ := hRd.at_ (k := k * 2) (by rw [fvs_length]; omega)
      clear hx
      obtain ⟨hc1, hc2⟩ := fld_cells hRd k hlt
      have hst := fsizes_take l k hlt
      have hle := fsizes_le l (k + 1)
      have HS := Lib.hid hst
      have hle2 : fsizes (l.take k) + fsize l[k] ≤ 4611686018427387903 := by omega
      clear hst hle hRd
      generalize hf : l[k] = f at *
      clear hf
      obtain ⟨f1, f2⟩ := f
      simp only [str] at hc1 hc2
      simp only [fsize] at hle2
      have hz1 := str_size f1
      have hz2 := str_size f2
      have HS2 : Hid (fsizes (l.take (k + 1)) = fsizes (l.take k) + (f1.length + f2.length + 32)) := HS.out
      generalize fsizes (l.take k) = n at *
      go_wp2
      go_quiet (fail)
      go_wp2
      go_roundw
      case rel => exact ⟨k + 1, by omega, by go_num, by rw [HS2.out]; go_num, _, rfl⟩
      case measure => simp [intOf]; omega
    · obtain rfl : k = l.length := by omega
      rw [List.take_length]
      go_wp2
      go_ret
      exact ⟨rfl, _, rfl⟩
end Go.Proofs.YtpojejdddgdjdaaGreatDoor.M
