/- field.Size and the reference's Size, size: what they return. The sizes together are below 2^62. -/
import Derived.Test.YtcebckkpablagaaStat
namespace Go.Proofs.Ytcebckkpablagaa.M
open Go.ChangeShapes Go.WideShapes Go.ChangeAt Go.RowKit

theorem fvs_length (l : List Fld) : (fvs l).length = 2 * l.length := by
  induction l with
  | nil => rfl
  | cons f l ih => simp only [fvs, List.flatMap_cons, List.length_append, List.length_cons, List.length_nil] at ih ⊢; omega
theorem fvs_append (l k : List Fld) : fvs (l ++ k) = fvs l ++ fvs k := by simp [fvs]
theorem fvs_one (l : List Fld) : ∀ u ∈ fvs l, u.oneCell' = true := fun u hu => by
  obtain ⟨p, _, hp⟩ := List.mem_flatMap.1 hu
  simp at hp
  rcases hp with rfl | rfl <;> rfl
theorem fvs_get : ∀ (l : List Fld) (i : Nat) (h : i < l.length), (fvs l)[i * 2]? = some (str l[i].1) ∧ (fvs l)[i * 2 + 1]? = some (str l[i].2)
  | [], i, h => by simp at h
  | p :: l, 0, _ => by simp [fvs]
  | p :: l, i + 1, h => by
    have ih := fvs_get l i (by simpa using h)
    simp only [fvs, List.flatMap_cons] at ih ⊢
    rw [show (i + 1) * 2 = i * 2 + 2 from by omega]
    exact ⟨ih.1, ih.2⟩
/-- what a field, fields count -/
def fsize (f : Fld) : Nat := f.1.length + f.2.length + 32
def fsizes (l : List Fld) : Nat := (l.map fsize).sum
theorem fsizes_snoc (l : List Fld) (f : Fld) : fsizes (l ++ [f]) = fsizes l + fsize f := by simp [fsizes]
theorem fsizes_take (l : List Fld) (k : Nat) (h : k < l.length) : fsizes (l.take (k + 1)) = fsizes (l.take k) + fsize l[k] := by
  rw [List.take_succ_eq_append_getElem h, fsizes_snoc]
theorem fsizes_append (l k : List Fld) : fsizes (l ++ k) = fsizes l + fsizes k := by simp [fsizes]
theorem fsizes_le (l : List Fld) (k : Nat) : fsizes (l.take k) ≤ fsizes l := by
  have h : fsizes l = fsizes (l.take k) + fsizes (l.drop k) := by rw [← fsizes_append, List.take_append_drop]
  omega
theorem fld_cells {w : World} {g off : Nat} {l : List Fld} (h : Rd w (some ⟨g, off, none⟩) (fvs l)) (k : Nat) (hk : k < l.length) :
    w.cell? ⟨g, off + k * 2, none⟩ = some (str l[k].1) ∧ w.cell? ⟨g, off + k * 2 + 1, none⟩ = some (str l[k].2) := by
  obtain ⟨h1, h2⟩ := fvs_get l k hk
  obtain ⟨g1, o1, e1, c1⟩ := h _ _ h1
  obtain ⟨g2, o2, e2, c2⟩ := h _ _ h2
  simp only [Option.some.injEq, Addr.mk.injEq] at e1 e2
  obtain ⟨rfl, rfl, _⟩ := e1
  obtain ⟨rfl, rfl, _⟩ := e2
  exact ⟨c1, c2⟩
theorem str_size (b : Bytes) : (⟨b.toArray⟩ : ByteArray).size = b.length := by show b.toArray.size = _; simp

set_option maxRecDepth 100000 in
set_option maxHeartbeats 1000000 in
theorem size_any (l : List Fld) (A : Option Addr) (c : Nat) (w : World) (hR : Rd w A (fvs l)) (hb : fsizes l ≤ 4611686018427387903) (hl : l.length ≤ 4611686018427387903) :
    Calls Try.prog 78 #[.slice A l.length c] w fun e w' => e = .returned (.int .i64 (fsizes l : Nat)) ∧ Frm (New w) w w' := by
  go_enter Try.func78, Try.ntmps78
  go_wp2
  have HR := Lib.hid hR
  clear hR
  go_loopw [3, 8] (fun n i wr => ∃ k : Nat, k ≤ l.length ∧ i = .int .i64 k ∧ n = .int .i64 (fsizes (l.take k) : Nat) ∧ Hid (Frm (New w) w wr)) (fun _ i _ => l.length - (intOf i).toNat)
  case atStart => exact ⟨0, Nat.zero_le _, rfl, rfl, Frm.refl _ _⟩
  case round =>
    obtain ⟨k, hk, rfl, rfl, hF⟩ := hrel
    by_cases hlt : k < l.length
    · have hRd := HR.out.fresh hF.out
      obtain ⟨g, off, rfl, hx⟩ := hRd.at_ (k := k * 2) (by rw [fvs_length]; omega)
      clear hx
      obtain ⟨hc1, hc2⟩ := fld_cells hRd k hlt
      have hst := fsizes_take l k hlt
      have hle := fsizes_le l (k + 1)
      have HS := Lib.hid hst
      have hle2 : fsizes (l.take k) + fsize l[k] ≤ 4611686018427387903 := by omega
      clear hst hle hRd
      generalize hf : l[k] = f at *
      clear hf
      obtain ⟨f1, f2⟩ := f
      simp only [str] at hc1 hc2
      simp only [fsize] at hle2
      have hz1 := str_size f1
      have hz2 := str_size f2
      have HS2 : Hid (fsizes (l.take (k + 1)) = fsizes (l.take k) + (f1.length + f2.length + 32)) := HS.out
      generalize fsizes (l.take k) = n at *
      go_wp2
      go_roundw
      case rel => exact ⟨k + 1, by omega, by go_num, by rw [HS2.out]; go_num, hF.out.alloc Up.new _⟩
      case measure => simp [intOf]; omega
    · obtain rfl : k = l.length := by omega
      rw [List.take_length]
      go_wp2
      go_ret
      exact ⟨rfl, hF.out⟩

set_option maxRecDepth 100000 in
set_option maxHeartbeats 1000000 in
theorem rsize_any (l : List Fld) (A : Option Addr) (c : Nat) (w : World) (hR : Rd w A (fvs l)) (hb : fsizes l ≤ 4611686018427387903) (hl : l.length ≤ 4611686018427387903) :
    Calls Try.prog 58 #[.slice A l.length c] w fun e w' => e = .returned (.int .i64 (fsizes l : Nat)) ∧ ∃ n, w' = w.drewN n := by
  go_enter Try.func58, Try.ntmps58
  go_wp2
  have HR := Lib.hid hR
  clear hR
  go_loopw [3, 4] (fun n i wr => ∃ k : Nat, k ≤ l.length ∧ i = .int .i64 k ∧ n = .int .i64 (fsizes (l.take k) : Nat) ∧ ∃ q, wr = w.drewN q) (fun _ i _ => l.length - (intOf i).toNat)
  case atStart => exact ⟨0, Nat.zero_le _, rfl, rfl, 0, rfl⟩
  case round =>
    obtain ⟨k, hk, rfl, rfl, q, rfl⟩ := hrel
    by_cases hlt : k < l.length
    · have hRd := HR.out
      obtain ⟨g, off, rfl, hx⟩ := hRd.at_ (k := k * 2) (by rw [fvs_length]; omega)
      clear hx
      obtain ⟨hc1, hc2⟩ := fld_cells hRd k hlt
      have hst := fsizes_take l k hlt
      have hle := fsizes_le l (k + 1)
      have HS := Lib.hid hst
      have hle2 : fsizes (l.take k) + fsize l[k] ≤ 4611686018427387903 := by omega
      clear hst hle hRd
      generalize hf : l[k] = f at *
      clear hf
      obtain ⟨f1, f2⟩ := f
      simp only [str] at hc1 hc2
      simp only [fsize] at hle2
      have hz1 := str_size f1
      have hz2 := str_size f2
      have HS2 : Hid (fsizes (l.take (k + 1)) = fsizes (l.take k) + (f1.length + f2.length + 32)) := HS.out
      generalize fsizes (l.take k) = n at *
      go_wp2
      go_quiet (fail)
      go_wp2
      go_roundw
      case rel => exact ⟨k + 1, by omega, by go_num, by rw [HS2.out]; go_num, _, rfl⟩
      case measure => simp [intOf]; omega
    · obtain rfl : k = l.length := by omega
      rw [List.take_length]
      go_wp2
      go_ret
      exact ⟨rfl, _, rfl⟩

theorem rsize1_any (f : Fld) (w : World) (h : fsize f ≤ 4611686018427387903) :
    Calls Try.prog 82 #[fld f] w fun e w' => e = .returned (.int .i64 (fsize f : Nat)) ∧ Frm (New w) w w' := by
  obtain ⟨f1, f2⟩ := f
  simp only [fsize] at h
  have hz1 := str_size f1
  have hz2 := str_size f2
  simp only [fld, str]
  go_enter Try.func82, Try.ntmps82
  go_wp2
  go_ret
  exact ⟨ret_int (by show ((f1.length : Int) + (f2.length : Int) + 32) = _; simp [fsize]), (Frm.refl _ _).alloc Up.new _⟩
end Go.Proofs.Ytcebckkpablagaa.M
