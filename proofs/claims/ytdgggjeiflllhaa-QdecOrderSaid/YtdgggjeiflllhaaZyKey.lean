/- Key -/
import Derived.Test.YtdgggjeiflllhaaZyMap
import Derived.Test.YtdgggjeiflllhaaZyMem
import Derived.Laws.StructEq
import Derived.Test.YtdgggjeiflllhaaZyRhuf
import Derived.Deep.RegionWith

namespace Go.Proofs.Ytdgggjeiflllhaa.M
open Go.ChangeShapes Go.WideShapes Go.ChangeAt Go.RowKit
abbrev Bytes := List UInt8
def str (l : Bytes) : Value := .string ⟨l.toArray⟩
abbrev Fld := Bytes × Bytes
def fld (f : Fld) : Value := .agg #[str f.1, str f.2]
theorem mk_toList (a : Bytes) : (⟨a.toArray⟩ : ByteArray).toList = a := by rw [ByteArray.toList_eq]
theorem str_beq (a b : Bytes) : ((⟨a.toArray⟩ : ByteArray) == ⟨b.toArray⟩) = decide (a = b) := by
  rw [beq_toListBytes, mk_toList, mk_toList]
  by_cases h : a = b <;> simp [h]
theorem u9 : Try.prog.underlying 9 = some .string := Try.underlying9
theorem check_plain (P : Program) (T : TypeId) (n : Nat) (e : Bool) (l : Bytes) (w : World) (h : P.underlying T = some .string) : (Instr.checkKey e (n + 1) T (str l)).run P w = .ok () w := by
  simp [Instr.checkKey, run_underlying h, str]
theorem skey : KeyLaw Try.prog 9 str where
  check := fun e k w => check_plain _ _ 9999 e k w u9
  find := find_now u9 (fun a b => by simp only [Instr.sameNow, str]; rw [str_beq])
  same := fun k => by
    show ((⟨k.toArray⟩ : ByteArray) == ⟨k.toArray⟩) = true
    rw [str_beq]; simp
theorem run_eq_str (a b : Bytes) (d : Nat) (w : World) : (Op.equalIn (d + 1) 9 (str a) (str b)).run Try.prog w = .ok (decide (a = b)) w := by
  unfold str
  rw [run_equalIn_string w d _ _ _ u9, mk_toList, mk_toList]
  congr 1
  by_cases h : a = b <;> simp [h]
theorem part9 (cs : Array Value) (i : Nat) (v : Value) (h : cs[i]? = some v) (w : World) : (part 9 cs i).run Try.prog w = .ok v w := by
  simp [part, isAgg, run_underlying u9, h]
theorem run_eq_fld (a b : Fld) (w : World) : (Op.equalIn 10000 71 (fld a) (fld b)).run Try.prog w = .ok (decide (a = b)) w := by
  unfold fld
  have hf : Try.prog.fieldsOf 71 = #[{ name := "Name", type := 9, offset := 0, embedded := false, tag := "", pkgPath := "", byteOffset := 0 }, { name := "Value", type := 9, offset := 1, embedded := false, tag := "", pkgPath := "", byteOffset := 16 }] := by
    unfold Program.fieldsOf; rw [Try.underlying71]
  rw [run_equalIn_struct w 9999 71 _ _ (by rw [hf]; exact Try.underlying71) (by kernel_rfl), hf]
  simp only [Op.eqFields, Sem.run_bind, part9 #[str a.1, str a.2] 0 (str a.1) rfl, part9 #[str b.1, str b.2] 0 (str b.1) rfl, part9 #[str a.1, str a.2] 1 (str a.2) rfl, part9 #[str b.1, str b.2] 1 (str b.2) rfl, Result.andThen_ok,
    run_eq_str _ _ 9998, Sem.run_ite, Sem.run_pure]
  obtain ⟨a1, a2⟩ := a
  obtain ⟨b1, b2⟩ := b
  by_cases h1 : a1 = b1 <;> by_cases h2 : a2 = b2 <;> simp [h1, h2]
theorem check_fld (n : Nat) (e : Bool) (k : Fld) (w : World) : (Instr.checkKey e (n + 1 + 1) 71 (fld k)).run Try.prog w = .ok () w := by
  have h1 := check_plain Try.prog 9 n e k.1 w u9
  have h2 := check_plain Try.prog 9 n e k.2 w u9
  unfold fld
  unfold Instr.checkKey
  simp only [Sem.run_bind, run_underlying Try.underlying71, Result.andThen_ok]
  rw [← Array.forIn_toList]
  simp only [List.forIn_cons, List.forIn_nil, Sem.run_bind, Sem.run_ite, part9 #[str k.1, str k.2] 0 (str k.1) rfl, Result.andThen_ok, Sem.run_pure]
  simp [h1]
  rw [part9 #[str k.1, str k.2] 1 (str k.2) rfl]
  simp [h2]
theorem fkey : KeyLaw Try.prog 71 fld where
  check := fun e k w => check_fld 9998 e k w
  find := find_asking Try.underlying71 (fun a b => rfl) (fun a b w => run_eq_fld a b w)
  same := fun k => by
    show ((#[str k.1, str k.2] : Array Value).size == (#[str k.1, str k.2] : Array Value).size && _) = true
    simp [str, Instr.sameBits, str_beq]
end Go.Proofs.Ytdgggjeiflllhaa.M
namespace Go.Proofs.Ytdgggjeiflllhaa.M
open Go.ChangeShapes Go.WideShapes Go.ChangeAt Go.RowKit
def h2tab : List Fld := [([58, 97, 117, 116, 104, 111, 114, 105, 116, 121], []),
  ([58, 109, 101, 116, 104, 111, 100], [71, 69, 84]),
  ([58, 109, 101, 116, 104, 111, 100], [80, 79, 83, 84]),
  ([58, 112, 97, 116, 104], [47]),
  ([58, 112, 97, 116, 104], [47, 105, 110, 100, 101, 120, 46, 104, 116, 109, 108]),
  ([58, 115, 99, 104, 101, 109, 101], [104, 116, 116, 112]),
  ([58, 115, 99, 104, 101, 109, 101], [104, 116, 116, 112, 115]),
  ([58, 115, 116, 97, 116, 117, 115], [50, 48, 48]),
  ([58, 115, 116, 97, 116, 117, 115], [50, 48, 52]),
  ([58, 115, 116, 97, 116, 117, 115], [50, 48, 54]),
  ([58, 115, 116, 97, 116, 117, 115], [51, 48, 52]),
  ([58, 115, 116, 97, 116, 117, 115], [52, 48, 48]),
  ([58, 115, 116, 97, 116, 117, 115], [52, 48, 52]),
  ([58, 115, 116, 97, 116, 117, 115], [53, 48, 48]),
  ([97, 99, 99, 101, 112, 116, 45, 99, 104, 97, 114, 115, 101, 116], []),
  ([97, 99, 99, 101, 112, 116, 45, 101, 110, 99, 111, 100, 105, 110, 103], [103, 122, 105, 112, 44, 32, 100, 101, 102, 108, 97, 116, 101]),
  ([97, 99, 99, 101, 112, 116, 45, 108, 97, 110, 103, 117, 97, 103, 101], []),
  ([97, 99, 99, 101, 112, 116, 45, 114, 97, 110, 103, 101, 115], []),
  ([97, 99, 99, 101, 112, 116], []),
  ([97, 99, 99, 101, 115, 115, 45, 99, 111, 110, 116, 114, 111, 108, 45, 97, 108, 108, 111, 119, 45, 111, 114, 105, 103, 105, 110], []),
  ([97, 103, 101], []),
  ([97, 108, 108, 111, 119], []),
  ([97, 117, 116, 104, 111, 114, 105, 122, 97, 116, 105, 111, 110], []),
  ([99, 97, 99, 104, 101, 45, 99, 111, 110, 116, 114, 111, 108], []),
  ([99, 111, 110, 116, 101, 110, 116, 45, 100, 105, 115, 112, 111, 115, 105, 116, 105, 111, 110], []),
  ([99, 111, 110, 116, 101, 110, 116, 45, 101, 110, 99, 111, 100, 105, 110, 103], []),
  ([99, 111, 110, 116, 101, 110, 116, 45, 108, 97, 110, 103, 117, 97, 103, 101], []),
  ([99, 111, 110, 116, 101, 110, 116, 45, 108, 101, 110, 103, 116, 104], []),
  ([99, 111, 110, 116, 101, 110, 116, 45, 108, 111, 99, 97, 116, 105, 111, 110], []),
  ([99, 111, 110, 116, 101, 110, 116, 45, 114, 97, 110, 103, 101], []),
  ([99, 111, 110, 116, 101, 110, 116, 45, 116, 121, 112, 101], []),
  ([99, 111, 111, 107, 105, 101], []),
  ([100, 97, 116, 101], []),
  ([101, 116, 97, 103], []),
  ([101, 120, 112, 101, 99, 116], []),
  ([101, 120, 112, 105, 114, 101, 115], []),
  ([102, 114, 111, 109], []),
  ([104, 111, 115, 116], []),
  ([105, 102, 45, 109, 97, 116, 99, 104], []),
  ([105, 102, 45, 109, 111, 100, 105, 102, 105, 101, 100, 45, 115, 105, 110, 99, 101], []),
  ([105, 102, 45, 110, 111, 110, 101, 45, 109, 97, 116, 99, 104], []),
  ([105, 102, 45, 114, 97, 110, 103, 101], []),
  ([105, 102, 45, 117, 110, 109, 111, 100, 105, 102, 105, 101, 100, 45, 115, 105, 110, 99, 101], []),
  ([108, 97, 115, 116, 45, 109, 111, 100, 105, 102, 105, 101, 100], []),
  ([108, 105, 110, 107], []),
  ([108, 111, 99, 97, 116, 105, 111, 110], []),
  ([109, 97, 120, 45, 102, 111, 114, 119, 97, 114, 100, 115], []),
  ([112, 114, 111, 120, 121, 45, 97, 117, 116, 104, 101, 110, 116, 105, 99, 97, 116, 101], []),
  ([112, 114, 111, 120, 121, 45, 97, 117, 116, 104, 111, 114, 105, 122, 97, 116, 105, 111, 110], []),
  ([114, 97, 110, 103, 101], []),
  ([114, 101, 102, 101, 114, 101, 114], []),
  ([114, 101, 102, 114, 101, 115, 104], []),
  ([114, 101, 116, 114, 121, 45, 97, 102, 116, 101, 114], []),
  ([115, 101, 114, 118, 101, 114], []),
  ([115, 101, 116, 45, 99, 111, 111, 107, 105, 101], []),
  ([115, 116, 114, 105, 99, 116, 45, 116, 114, 97, 110, 115, 112, 111, 114, 116, 45, 115, 101, 99, 117, 114, 105, 116, 121], []),
  ([116, 114, 97, 110, 115, 102, 101, 114, 45, 101, 110, 99, 111, 100, 105, 110, 103], []),
  ([117, 115, 101, 114, 45, 97, 103, 101, 110, 116], []),
  ([118, 97, 114, 121], []),
  ([118, 105, 97], []),
  ([119, 119, 119, 45, 97, 117, 116, 104, 101, 110, 116, 105, 99, 97, 116, 101], [])]
def fvs (l : List Fld) : List Value := l.flatMap fun f => [str f.1, str f.2]
theorem build_fld {o : Oper} {a : Act} {w : World} {s1 s2 : ByteArray} (ho : o.op = .build 71 #[(0, .const (.string s1)), (1, .const (.string s2))]) :
    (execOp a.eval o).run Try.prog w = .ok (.value (.agg #[.string s1, .string s2])) w := by
  unfold execOp
  rw [ho]
  kernel_rfl
end Go.Proofs.Ytdgggjeiflllhaa.M
namespace Go.Proofs.Ytdgggjeiflllhaa.M
open Go.ChangeShapes Go.WideShapes Go.ChangeAt Go.RowKit
theorem fvs_length (l : List Fld) : (fvs l).length = 2 * l.length := by
  induction l with
  | nil => rfl
  | cons f l ih => simp only [fvs, List.flatMap_cons, List.length_append, List.length_cons, List.length_nil] at ih ⊢; omega
theorem fvs_append (l k : List Fld) : fvs (l ++ k) = fvs l ++ fvs k := by simp [fvs]
theorem fvs_get : ∀ (l : List Fld) (i : Nat) (h : i < l.length), (fvs l)[i * 2]? = some (str l[i].1) ∧ (fvs l)[i * 2 + 1]? = some (str l[i].2)
  | [], i, h => by simp at h
  | p :: l, 0, _ => by simp [fvs]
  | p :: l, i + 1, h => by
    have ih := fvs_get l i (by simpa using h)
    simp only [fvs, List.flatMap_cons] at ih ⊢
    rw [show (i + 1) * 2 = i * 2 + 2 from by omega]
    exact ⟨ih.1, ih.2⟩
def fsize (f : Fld) : Nat := f.1.length + f.2.length + 32
def fsizes (l : List Fld) : Nat := (l.map fsize).sum
theorem fsizes_snoc (l : List Fld) (f : Fld) : fsizes (l ++ [f]) = fsizes l + fsize f := by simp [fsizes]
theorem fsizes_take (l : List Fld) (k : Nat) (h : k < l.length) : fsizes (l.take (k + 1)) = fsizes (l.take k) + fsize l[k] := by
  rw [List.take_succ_eq_append_getElem h, fsizes_snoc]
theorem fsizes_append (l k : List Fld) : fsizes (l ++ k) = fsizes l + fsizes k := by simp [fsizes]
theorem fsizes_le (l : List Fld) (k : Nat) : fsizes (l.take k) ≤ fsizes l := by
  have h : fsizes l = fsizes (l.take k) + fsizes (l.drop k) := by rw [← fsizes_append, List.take_append_drop]
  omega
theorem fld_cells {w : World} {g off : Nat} {l : List Fld} (h : Rd w (some ⟨g, off, none⟩) (fvs l)) (k : Nat) (hk : k < l.length) :
    w.cell? ⟨g, off + k * 2, none⟩ = some (str l[k].1) ∧ w.cell? ⟨g, off + k * 2 + 1, none⟩ = some (str l[k].2) := by
  obtain ⟨h1, h2⟩ := fvs_get l k hk
  obtain ⟨g1, o1, e1, c1⟩ := h _ _ h1
  obtain ⟨g2, o2, e2, c2⟩ := h _ _ h2
  simp only [Option.some.injEq, Addr.mk.injEq] at e1 e2
  obtain ⟨rfl, rfl, _⟩ := e1
  obtain ⟨rfl, rfl, _⟩ := e2
  exact ⟨c1, c2⟩
theorem str_size (b : Bytes) : (⟨b.toArray⟩ : ByteArray).size = b.length := by show b.toArray.size = _; simp
set_option maxRecDepth 100000 in
set_option maxHeartbeats 1000000 in
theorem size_any (l : List Fld) (A : Option Addr) (c : Nat) (w : World) (hR : Rd w A (fvs l)) (hb : fsizes l ≤ 4611686018427387903) (hl : l.length ≤ 4611686018427387903) :
    Calls Try.prog 119 #[.slice A l.length c] w fun e w' => e = .returned (.int .i64 (fsizes l : Nat)) ∧ Frm (New w) w w' := by
  go_enter Try.func119, Try.ntmps119
  go_wp2
  have HR := Lib.hid hR
  clear hR
  go_loopw [3, 8] (fun n i wr => ∃ k : Nat, k ≤ l.length ∧ i = .int .i64 k ∧ n = .int .i64 (fsizes (l.take k) : Nat) ∧ Hid (Frm (New w) w wr)) (fun _ i _ => l.length - (intOf i).toNat)
  case atStart => exact ⟨0, Nat.zero_le _, rfl, rfl, Frm.refl _ _⟩
  case round =>
    obtain ⟨k, hk, rfl, rfl, hF⟩ := hrel
    by_cases hlt : k < l.length
    · have hRd := HR.out.fresh hF.out
      obtain ⟨g, off, rfl, hx⟩ := hRd.at_ (k := k * 2) (by rw [fvs_length]; omega)
      clear hx
      obtain ⟨hc1, hc2⟩ := fld_cells hRd k hlt
      have hst := fsizes_take l k hlt
      have hle := fsizes_le l (k + 1)
      have HS := Lib.hid hst
      have hle2 : fsizes (l.take k) + fsize l[k] ≤ 4611686018427387903 := by omega
      clear hst hle hRd
      generalize hf : l[k] = f at *
      clear hf
      obtain ⟨f1, f2⟩ := f
      simp only [str] at hc1 hc2
      simp only [fsize] at hle2
      have hz1 := str_size f1
      have hz2 := str_size f2
      have HS2 : Hid (fsizes (l.take (k + 1)) = fsizes (l.take k) + (f1.length + f2.length + 32)) := HS.out
      generalize fsizes (l.take k) = n at *
      go_wp2
      go_roundw
      case rel => exact ⟨k + 1, by omega, by go_num, by rw [HS2.out]; go_num, hF.out.alloc Up.new _⟩
      case measure => simp [intOf]; omega
    · obtain rfl : k = l.length := by omega
      rw [List.take_length]
      go_wp2
      go_ret
      exact ⟨rfl, hF.out⟩
set_option maxRecDepth 100000 in
set_option maxHeartbeats 1000000 in
theorem rsize_any (l : List Fld) (A : Option Addr) (c : Nat) (w : World) (hR : Rd w A (fvs l)) (hb : fsizes l ≤ 4611686018427387903) (hl : l.length ≤ 4611686018427387903) :
    Calls Try.prog 86 #[.slice A l.length c] w fun e w' => e = .returned (.int .i64 (fsizes l : Nat)) ∧ ∃ n, w' = w.drewN n := by
  go_enter Try.func86, Try.ntmps86
  go_wp2
  have HR := Lib.hid hR
  clear hR
  go_loopw [3, 4] (fun n i wr => ∃ k : Nat, k ≤ l.length ∧ i = .int .i64 k ∧ n = .int .i64 (fsizes (l.take k) : Nat) ∧ ∃ q, wr = w.drewN q) (fun _ i _ => l.length - (intOf i).toNat)
  case atStart => exact ⟨0, Nat.zero_le _, rfl, rfl, 0, rfl⟩
  case round =>
    obtain ⟨k, hk, rfl, rfl, q, rfl⟩ := hrel
    by_cases hlt : k < l.length
    · have hRd := HR.out
      obtain ⟨g, off, rfl, hx⟩ := hRd.at_ (k := k * 2) (by rw [fvs_length]; omega)
      clear hx
      obtain ⟨hc1, hc2⟩ := fld_cells hRd k hlt
      have hst := fsizes_take l k hlt
      have hle := fsizes_le l (k + 1)
      have HS := Lib.hid hst
      have hle2 : fsizes (l.take k) + fsize l[k] ≤ 4611686018427387903 := by omega
      clear hst hle hRd
      generalize hf : l[k] = f at *
      clear hf
      obtain ⟨f1, f2⟩ := f
      simp only [str] at hc1 hc2
      simp only [fsize] at hle2
      have hz1 := str_size f1
      have hz2 := str_size f2
      have HS2 : Hid (fsizes (l.take (k + 1)) = fsizes (l.take k) + (f1.length + f2.length + 32)) := HS.out
      generalize fsizes (l.take k) = n at *
      go_wp2
      go_quiet (fail)
      go_wp2
      go_roundw
      case rel => exact ⟨k + 1, by omega, by go_num, by rw [HS2.out]; go_num, _, rfl⟩
      case measure => simp [intOf]; omega
    · obtain rfl : k = l.length := by omega
      rw [List.take_length]
      go_wp2
      go_ret
      exact ⟨rfl, _, rfl⟩
theorem rsize1_any (f : Fld) (w : World) (h : fsize f ≤ 4611686018427387903) :
    Calls Try.prog 99 #[fld f] w fun e w' => e = .returned (.int .i64 (fsize f : Nat)) ∧ Frm (New w) w w' := by
  obtain ⟨f1, f2⟩ := f
  simp only [fsize] at h
  have hz1 := str_size f1
  have hz2 := str_size f2
  simp only [fld, str]
  go_enter Try.func99, Try.ntmps99
  go_wp2
  go_ret
  exact ⟨ret_int (by show ((f1.length : Int) + (f2.length : Int) + 32) = _; simp [fsize]), (Frm.refl _ _).alloc Up.new _⟩
end Go.Proofs.Ytdgggjeiflllhaa.M
namespace Go.Proofs.Ytdgggjeiflllhaa.M
open Go.ChangeShapes Go.WideShapes Go.ChangeAt Go.RowKit
def nameAt (l : List Fld) (n : Bytes) : Option Nat := l.findIdx? fun x => decide (x.1 = n)
def fldAt (l : List Fld) (f : Fld) : Option Nat := l.findIdx? fun x => decide (x = f)
def findS (l : List Fld) (f : Fld) : Nat × Bool × Bool :=
  match fldAt l f with
  | some i => (i, true, true)
  | none => match nameAt l f.1 with
    | some i => (i, true, false)
    | none => (0, false, false)
theorem fldAt_none (l : List Fld) (f : Fld) (k : Nat) (h : k < l.length) (h0 : fldAt (l.take k) f = none) :
    (l[k] = f → fldAt l f = some k) ∧ (l[k] ≠ f → fldAt (l.take (k + 1)) f = none) := by
  unfold fldAt at *
  have hl : (l.take k).length = k := by simp; omega
  constructor
  · intro e
    have hs : l = l.take k ++ l[k] :: l.drop (k + 1) := by simp
    rw [hs, List.findIdx?_append, h0]
    simp [List.findIdx?_cons, e]; omega
  · intro e
    rw [List.take_succ_eq_append_getElem h, List.findIdx?_append, h0]
    simp [List.findIdx?_cons, e]
theorem findS_le (l : List Fld) (f : Fld) : (findS l f).1 ≤ l.length := by
  unfold findS
  cases h1 : fldAt l f with
  | some i => obtain ⟨h, _⟩ := List.findIdx?_eq_some_iff_getElem.1 h1; simp; omega
  | none =>
    cases h2 : nameAt l f.1 with
    | some i => obtain ⟨h, _⟩ := List.findIdx?_eq_some_iff_getElem.1 h2; simp; omega
    | none => simp
def h2S (f : Fld) : Nat × Bool × Bool := if (findS h2tab f).2.1 then ((findS h2tab f).1 + 1, true, (findS h2tab f).2.2) else (0, false, false)
end Go.Proofs.Ytdgggjeiflllhaa.M
namespace Go.Proofs.Ytdgggjeiflllhaa.M
open Go.ChangeShapes Go.WideShapes Go.ChangeAt Go.RowKit
theorem nameAt_none (l : List Fld) (n : Bytes) (k : Nat) (h : k < l.length) (h0 : nameAt (l.take k) n = none) :
    (l[k].1 = n → nameAt l n = some k) ∧ (l[k].1 ≠ n → nameAt (l.take (k + 1)) n = none) := by
  unfold nameAt at *
  have hl : (l.take k).length = k := by simp; omega
  constructor
  · intro e
    have hs : l = l.take k ++ l[k] :: l.drop (k + 1) := by simp
    rw [hs, List.findIdx?_append, h0, List.findIdx?_cons, if_pos (by simpa using e), hl]
    simp
  · intro e
    rw [List.take_succ_eq_append_getElem h, List.findIdx?_append, h0]
    simp [List.findIdx?_cons, e]
set_option maxRecDepth 100000 in
set_option maxHeartbeats 1000000 in
theorem findin_any (l : List Fld) (f : Fld) (A : Option Addr) (c : Nat) (w : World) (hR : Rd w A (fvs l)) (hl : l.length ≤ 4611686018427387903) :
    Calls Try.prog 56 #[.slice A l.length c, fld f] w fun e w' => e = .returned (.tuple #[.int .i64 (findS l f).1, .bool (findS l f).2.1, .bool (findS l f).2.2]) ∧ Frm (New w) w w' := by
  obtain ⟨f1, f2⟩ := f
  simp only [fld, str]
  go_enter Try.func56, Try.ntmps56
  go_wp2
  have HB : Blk (w.alloc (Obj.cells #[Value.string { data := List.toArray f1 }, Value.string { data := List.toArray f2 }] 71)) w.heap.size 71 #[Value.string { data := List.toArray f1 }, Value.string { data := List.toArray f2 }] := Blk.new w _ _
  have HR : Rd (w.alloc (Obj.cells #[Value.string { data := List.toArray f1 }, Value.string { data := List.toArray f2 }] 71)) A (fvs l) := hR.alloc _
  have H0 : Frm (New w) w (w.alloc (Obj.cells #[Value.string { data := List.toArray f1 }, Value.string { data := List.toArray f2 }] 71)) := (Frm.refl _ _).alloc Up.new _
  generalize w.alloc (Obj.cells #[Value.string { data := List.toArray f1 }, Value.string { data := List.toArray f2 }] 71) = w1 at *
  generalize hb : w.heap.size = b at *
  have hd1 := HB.cell 0
  have hd2 := HB.cell 1
  have hb1 : b < w1.heap.size := HB.lt
  have HR := Lib.hid HR
  have H0 := Lib.hid H0
  clear hR HB
  go_loopw [7] (fun i wr => ∃ k : Nat, k ≤ l.length ∧ i = .int .i64 k ∧ Hid (fldAt (l.take k) (f1, f2) = none) ∧ ∃ q, wr = w1.drewN q) (fun i _ => l.length - (intOf i).toNat)
  case atStart => exact ⟨0, Nat.zero_le _, rfl, rfl, 0, rfl⟩
  case round =>
    obtain ⟨k, hk, rfl, hN, q, rfl⟩ := hrel
    by_cases hlt : k < l.length
    · have hRd := HR.out
      obtain ⟨g, off, rfl, hx⟩ := hRd.at_ (k := k * 2) (by rw [fvs_length]; omega)
      clear hx
      obtain ⟨hc1, hc2⟩ := fld_cells hRd k hlt
      clear hRd
      have HT := Lib.hid (fldAt_none l (f1, f2) k hlt hN.out)
      generalize hf : l[k] = f at *
      obtain ⟨x1, x2⟩ := f
      simp only [str] at hc1 hc2
      clear hf
      by_cases h1 : x1 = f1 <;> by_cases h2 : x2 = f2
      all_goals go_wp2
      all_goals go_quiet (fail)
      all_goals go_wp2
      case _ =>
        have e1 := HT.out.1 (by rw [h1, h2])
        refine bodyPost_ret (v := .tuple #[.int .i64 k, .bool true, .bool true]) (by simp [results, Try.results56, go_sem]) rfl ?_
        simp only [findS, e1]
        exact ⟨by first | rfl | trivial, (H0.out.drewN _).drewN _⟩
      all_goals
        have hn2 : Hid (fldAt (List.take (k + 1) l) (f1, f2) = none) := HT.out.2 (fun h => by
          simp only [Prod.mk.injEq] at h
          obtain ⟨h3, h4⟩ := h
          first | exact h1 h3 | exact h2 h4)
      all_goals go_roundw
      all_goals try (case measure => simp [intOf]; omega)
      all_goals exact ⟨k + 1, by omega, by go_num, hn2, _, rfl⟩
    · obtain rfl : k = l.length := by omega
      simp only [List.take_length] at hN
      go_wp2
      go_loopw [8] (fun i wr => ∃ k : Nat, k ≤ l.length ∧ i = .int .i64 k ∧ Hid (nameAt (l.take k) f1 = none) ∧ ∃ q, wr = w1.drewN q) (fun i _ => l.length - (intOf i).toNat)
      case atStart => exact ⟨0, Nat.zero_le _, rfl, rfl, _, rfl⟩
      case round =>
        obtain ⟨k, hk, rfl, hM, q, rfl⟩ := hrel
        by_cases hlt : k < l.length
        · have hRd := HR.out
          obtain ⟨g, off, rfl, hx⟩ := hRd.at_ (k := k * 2) (by rw [fvs_length]; omega)
          clear hx
          obtain ⟨hc1, hc2⟩ := fld_cells hRd k hlt
          clear hRd
          have HT := Lib.hid (nameAt_none l f1 k hlt hM.out)
          generalize hf : l[k] = f at *
          obtain ⟨x1, x2⟩ := f
          simp only [str] at hc1 hc2
          clear hf
          by_cases h1 : x1 = f1
          all_goals go_wp2
          all_goals go_quiet (fail)
          all_goals go_wp2
          case _ =>
            have e1 := HT.out.1 h1
            refine bodyPost_ret (v := .tuple #[.int .i64 k, .bool true, .bool false]) (by simp [results, Try.results56, go_sem]) rfl ?_
            simp only [findS, hN.out, e1]
            exact ⟨by first | rfl | trivial, (H0.out.drewN _).drewN _⟩
          all_goals try (rename_i hh; exact absurd (by simpa using hh) h1)
          all_goals
            have hn2 : Hid (nameAt (List.take (k + 1) l) f1 = none) := HT.out.2 h1
          all_goals go_roundw
          all_goals try (case measure => simp [intOf]; omega)
          all_goals exact ⟨k + 1, by omega, by go_num, hn2, _, rfl⟩
        · obtain rfl : k = l.length := by omega
          simp only [List.take_length] at hM
          go_wp2
          refine bodyPost_ret (v := .tuple #[.int .i64 0, .bool false, .bool false]) (by simp [results, Try.results56, go_sem]) rfl ?_
          simp only [findS, hN.out, hM.out]
          exact ⟨by first | rfl | trivial, H0.out.drewN _⟩
end Go.Proofs.Ytdgggjeiflllhaa.M

