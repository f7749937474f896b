/- SemLengths, plain: what a content-length says. No condition. -/
import Derived.Test.YtpojejdddgdjdaaGreatDoorSrv
import Derived.Test.YtpojejdddgdjdaaGreatDoorSdc
namespace Go.Proofs.YtpojejdddgdjdaaGreatDoor.M
open Go.ChangeShapes Go.WideShapes Go.ChangeAt Go.RowKit

theorem dig_okc {c : UInt8} (h : dig c = true) : okc c = true ∧ wht c = false := by
  have key : ∀ n : Fin 256, dig (UInt8.ofNat n.val) = true → okc (UInt8.ofNat n.val) = true ∧ wht (UInt8.ofNat n.val) = false := by decide +kernel
  have := key ⟨c.toNat, c.toNat_lt⟩
  simp only [UInt8.ofNat_toNat] at this
  exact this h
theorem valOk_dig {s : Bytes} (h : s.all dig = true) : valOk s = true := by
  cases s with
  | nil => rfl
  | cons c t =>
    have ha := List.all_eq_true.1 h
    unfold valOk
    rw [Bool.and_eq_true, Bool.and_eq_true]
    refine ⟨List.all_eq_true.2 (fun x hx => (dig_okc (ha x hx)).1), ?_, ?_⟩
    · rw [(dig_okc (ha c (by simp))).2]; rfl
    · rw [(dig_okc (ha _ (List.getElem_mem (by simp)))).2]; rfl
/-- noughts ahead -/
def zeros (z n : Nat) : Bytes := List.replicate z 48 ++ decB n
theorem zeros_dig (z n : Nat) : (zeros z n).all dig = true := by
  unfold zeros
  rw [List.all_append, decB_dig, Bool.and_true, List.all_eq_true]
  intro x hx
  rw [(List.mem_replicate.1 hx).2]
  decide
theorem zeros_num (z n : Nat) : numF 0 (zeros z n) = n := by
  unfold zeros
  induction z with
  | zero => exact decB_num n
  | succ z ih =>
    rw [List.replicate_succ, List.cons_append]
    show numF (10 * 0 + ((48 : UInt8).toNat - 48)) _ = n
    exact ih
theorem zeros_succ (z n : Nat) : zeros (z + 1) n = 48 :: zeros z n := rfl
theorem zeros_len (z n : Nat) : (zeros z n).length = z + (decB n).length := by unfold zeros; rw [List.length_append, List.length_replicate]
theorem zeros_isLen (z n k : Nat) : isLen (zeros z n) (k : Int) = (decide ((zeros z n).length ≤ 9) && decide (n = k)) := by
  unfold isLen
  have hne : (zeros z n).isEmpty = false := by
    have h2 := decB_pos n
    cases h : zeros z n with
    | nil =>
      exfalso
      have h1 := zeros_len z n
      rw [h, List.length_nil] at h1
      omega
    | cons c t => rfl
  rw [hne, zeros_dig, zeros_num]
  by_cases h : n = k
  · subst h; simp
  · have h2 : ¬ ((n : Int) = (k : Int)) := by omega
    simp [h, h2]
def kPut : List Fld := [(bMe, [80, 85, 84]), (bSc, [104, 116, 116, 112, 115]), (bPa, [47])]
def lenL (v : Bytes) (tw : Bool) (u : Bytes) : List Fld := kPut ++ ((bCL, v) :: (if tw then [(bCL, u)] else []))
theorem lenL_sp (v : Bytes) (tw : Bool) (u : Bytes) : spS (lenL v tw u) = kPut ∧ spR (lenL v tw u) = (bCL, v) :: (if tw then [(bCL, u)] else []) := by
  cases tw <;> exact ⟨rfl, rfl⟩
theorem plain_cl (v : Bytes) (n : Int) : plainOk (bCL, v) n = (valOk v && isLen v n) := by
  unfold plainOk
  have h1 : nameOk bCL = true := by decide
  have h2 : hop bCL = false := by decide
  have h3 : ¬ bCL = bTe := by decide
  rw [if_neg h3, if_pos rfl]
  simp only [h1, h2]
  rfl
theorem lenL_ok (v : Bytes) (tw : Bool) (u : Bytes) (m : MV) (e1 : m.fs = lenL v tw u) (e3 : m.ts = []) :
    okF names4 m = (plainOk (bCL, v) (m.b.length : Int) && (if tw then plainOk (bCL, u) (m.b.length : Int) else true)) := by
  obtain ⟨h1, h2⟩ := lenL_sp v tw u
  unfold okF
  rw [e1, h1, h2, e3]
  have ht : trailOk [] = true := rfl
  rw [ht, Bool.and_true]
  unfold shpB
  have hs : kPut.all (fun f => ps f && (decide (f.1 ∈ names4) && (nameOk f.1.tail && valOk f.2))) = true := by decide
  have hn : decide (kPut.map Prod.fst).Nodup = true := by decide
  rw [hs, hn, Bool.true_and, Bool.true_and, List.all_cons]
  have hp : ∀ x, ps (bCL, x) = false := fun x => rfl
  rw [hp]
  cases tw with
  | false => simp
  | true => simp [hp]
theorem lenL_cls (v : Bytes) (tw : Bool) (u : Bytes) (m : MV) (e1 : m.fs = lenL v tw u) (e3 : m.ts = []) (hb : m.b.length ≤ 8192) (hv : v.length ≤ 1000) (hu : u.length ≤ 1000) :
    rcls m = if plainOk (bCL, v) (m.b.length : Int) && (if tw then plainOk (bCL, u) (m.b.length : Int) else true) then 0 else 1 := by
  have hl : lrgM m = false := by
    unfold lrgM lrg
    have hz : fsizes [] = 0 := rfl
    have hln : m.fs.length ≤ 5 := by rw [e1]; cases tw <;> simp [lenL, kPut]
    have hsz : fsizes m.fs ≤ 4096 := by
      rw [e1]
      cases tw <;> simp [lenL, kPut, fsizes, fsize, bMe, bSc, bPa, bCL] <;> omega
    rw [e3, hz]
    simp only [Bool.or_eq_false_iff, decide_eq_false_iff_not]
    exact ⟨⟨by omega, by omega⟩, ⟨by simp, by omega⟩, by omega⟩
  obtain ⟨h1, _⟩ := lenL_sp v tw u
  unfold rcls
  rw [hl, if_neg Bool.false_ne_true, lenL_ok v tw u m e1 e3, e1, h1]
  have hr : rokV (val kPut bMe) (val kPut bSc) (val kPut bPa) = true := by decide
  rw [hr, Bool.and_true]
/-- the law -/
theorem lenL_law (z n k : Nat) (tw : Bool) (m : MV) (e1 : m.fs = lenL (zeros z n) tw (decB k)) (e2 : m.b.length = k) (e3 : m.ts = []) (hk : k < 300) (hz : z < 10) (hn : n < 1000) :
    rcls m = if decide ((zeros z n).length ≤ 9) && decide (n = k) then 0 else 1 := by
  have hd : ∀ q, q < 1000 → (decB q).length ≤ 3 := fun q hq => decB_len 2 q (by omega)
  have h1 := hd n hn
  have h2 := hd k (by omega)
  rw [lenL_cls (zeros z n) tw (decB k) m e1 e3 (by omega) (by rw [zeros_len]; omega) (by omega), e2, plain_cl, plain_cl, valOk_dig (zeros_dig z n), valOk_dig (decB_dig k), zeros_isLen]
  have hk2 : isLen (decB k) (k : Int) = true := by
    have h := zeros_isLen 0 k k
    have e : zeros 0 k = decB k := rfl
    rw [e] at h
    rw [h, decide_eq_true (by omega)]
    simp
  rw [hk2]
  cases tw <;> simp
end Go.Proofs.YtpojejdddgdjdaaGreatDoor.M
