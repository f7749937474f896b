/- The reference's StrBits: what it returns. -/
import Derived.Test.YtcebckkpablagaaUnw
import Derived.Test.YtcebckkpablagaaRrd
import Derived.Deep.CutBlock
namespace Go.Proofs.Ytcebckkpablagaa.M
open Go.ChangeShapes Go.WideShapes Go.ChangeAt Go.RowKit

theorem u8size : (Try.prog.info? 5).map (·.size) = some 1 := by kernel_rfl
/-- x[i:j] of bytes -/
theorem run_cut {o : Oper} {a : Act} {w : World} {x lo hi : Operand} {A : Option Addr} {n c i j : Nat} {u v : Int} (ho : o.op = .slice 22 x (some lo) (some hi) none) (hx : a.eval x = .slice A n c)
    (hlo : a.eval lo = .int .i64 u) (hhi : a.eval hi = .int .i64 v) (hu : u = (i : Int)) (hv : v = (j : Int)) (hij : i ≤ j) (hj : j ≤ c) :
    (execOp a.eval o).run Try.prog w = .ok (.value (.slice (if c = i then A else A.map (·.add i)) (j - i) (c - i))) w := by
  subst hu
  subst hv
  cases hi : Try.prog.info? 5 with
  | none => have := u8size; rw [hi] at this; cases this
  | some q =>
    have hs := u8size
    rw [hi] at hs
    have hs' : q.size = 1 := by simpa using hs
    unfold execOp
    have h3 : (0 : Int) ≤ (i : Int) := by omega
    have h4 : (0 : Int) ≤ (j : Int) := by omega
    simp only [ho, Option.map_some, Option.map_none, hlo, hhi, hx]
    simp [Instr.sliceAt, Instr.slice, Instr.sliceBounds, Instr.sliceBound, run_underlying Try.underlying22, sizeOf, typeInfo, hi, hs', asIntOf, h3, h4, hij, hj]
/-- x[i:] of bytes -/
theorem run_from {o : Oper} {a : Act} {w : World} {x lo : Operand} {A : Option Addr} {n c i : Nat} {u : Int} (ho : o.op = .slice 22 x (some lo) none none) (hx : a.eval x = .slice A n c)
    (hlo : a.eval lo = .int .i64 u) (hu : u = (i : Int)) (hin : i ≤ n) :
    (execOp a.eval o).run Try.prog w = .ok (.value (.slice (if c = i then A else A.map (·.add i)) (n - i) (c - i))) w := by
  subst hu
  cases hi : Try.prog.info? 5 with
  | none => have := u8size; rw [hi] at this; cases this
  | some q =>
    have hs := u8size
    rw [hi] at hs
    have hs' : q.size = 1 := by simpa using hs
    unfold execOp
    have h3 : (0 : Int) ≤ (i : Int) := by omega
    simp only [ho, Option.map_some, Option.map_none, hlo, hx]
    simp [Instr.sliceAt, Instr.slice, Instr.sliceBounds, Instr.sliceBound, run_underlying Try.underlying22, sizeOf, typeInfo, hi, hs', asIntOf, h3, hin]
/-- what such a slice reads -/
theorem Rd.sub {w : World} {A : Option Addr} {b : Bytes} (h : Rd w A (bvs b)) {c : Nat} (hc : b.length ≤ c) (i n : Nat) :
    ∃ A2, (if c = i then A else A.map (·.add i)) = A2 ∧ Rd w A2 (bvs ((b.drop i).take n)) := by
  refine ⟨_, rfl, ?_⟩
  have h1 := (h.cut i c (fun e => by rw [bvs_length]; omega)).take n
  simpa [bvs, List.map_drop, List.map_take] using h1
theorem Rd.from_ {w : World} {A : Option Addr} {b : Bytes} (h : Rd w A (bvs b)) {c : Nat} (hc : b.length ≤ c) (i : Nat) :
    ∃ A2, (if c = i then A else A.map (·.add i)) = A2 ∧ Rd w A2 (bvs (b.drop i)) := by
  refine ⟨_, rfl, ?_⟩
  have h1 := h.cut i c (fun e => by rw [bvs_length]; omega)
  simpa [bvs, List.map_drop] using h1
theorem head_and (x : Nat) (hx : x < 256) : bits .and .u8 ((x : Int) / 2 ^ 7) 1 = ((x / 128 % 2 : Nat) : Int) := by
  have key : ∀ x : Fin 256, bits .and .u8 ((x.val : Int) / 2 ^ 7) 1 = ((x.val / 128 % 2 : Nat) : Int) := by decide +kernel
  exact key ⟨x, hx⟩
theorem head_and' (x : Nat) (hx : x < 256) : bits .and .u8 ((x : Int) / 128) 1 = ((x / 128 % 2 : Nat) : Int) := by
  have key : ∀ x : Fin 256, bits .and .u8 ((x.val : Int) / 128) 1 = ((x.val / 128 % 2 : Nat) : Int) := by decide +kernel
  exact key ⟨x, hx⟩

/-- a string is handed back, how many bytes, an error's number -/
def RetS (w : World) (x : Bytes × Nat × Nat) (e : Ending) (w' : World) : Prop :=
  e = .returned (.tuple #[str x.1, .int .i64 (x.2.1 : Int), .int .i64 (x.2.2 : Int)]) ∧ Frm (New w) w w'

set_option maxRecDepth 100000 in
set_option maxHeartbeats 1000000 in
theorem strbits_any (b : Bytes) (A : Option Addr) (c : Nat) (w : World) (hR : Rd w A (bvs b)) (hl : b.length ≤ 1099511627776) (hc : b.length ≤ c) :
    Calls Try.prog 38 #[.slice A b.length c, .int .i64 7] w (RetS w (strD b 7)) := by
  have hrd := rrdp_any b A c 7 w hR (by omega) (by omega) (by omega)
  have hrg := rdp_range b 7 (by decide)
  have hD : Hid (strD b 7 = match rdp b 7 with
    | (n, at_, e) =>
      if e ≠ 0 then ([], 0, e) else if 4096 < n then ([], 0, 23) else if b.length - at_ < n then ([], 0, 20) else
      if (b.headD 0).toNat / 2 ^ 7 % 2 = 0 then ((b.drop at_).take n, at_ + n, 0) else
      match unhuf ((b.drop at_).take n) with
      | (s, e) => if e ≠ 0 then ([], 0, e) else (s, at_ + n, 0)) := rfl
  generalize rdp b 7 = q at *
  obtain ⟨n, at_, e⟩ := q
  unfold Ret3 at hrd
  simp only at hrd hrg
  have hD1 : Hid (strD b 7 = if e ≠ 0 then ([], 0, e) else if 4096 < n then ([], 0, 23) else if b.length - at_ < n then ([], 0, 20) else
      if (b.headD 0).toNat / 2 ^ 7 % 2 = 0 then ((b.drop at_).take n, at_ + n, 0) else
      match unhuf ((b.drop at_).take n) with
      | (s, e) => if e ≠ 0 then ([], 0, e) else (s, at_ + n, 0)) := hD.out
  clear hD
  by_cases he : e ≠ 0
  · have hD2 : Hid (strD b 7 = ([], 0, e)) := by show _ = _; rw [hD1.out, if_pos he]
    have he2 : ((e : Int) == 0) = false := by rw [beq_eq_false_iff_ne]; omega
    have HRD := Lib.hid hrd
    have HR := Lib.hid hR
    have HRG := Lib.hid hrg
    clear hrd hR hrg
    clear hD1
    go_enter Try.func38, Try.ntmps38
    go_wp2_with (go_at_call 60; refine HRD.out.mono ?_; rintro e w2 ⟨rfl, nn, rfl⟩)
    go_ret3
    unfold RetS
    rw [hD2.out]
    exact ⟨rfl, (Frm.refl _ _).drewN nn⟩
  · have he0 : e = 0 := by omega
    subst he0
    rw [show ((0 : Nat) : Int) = 0 from rfl] at hrd
    obtain ⟨hr1, hr2, hr3⟩ := hrg rfl
    have hD2 : Hid (strD b 7 = if 4096 < n then ([], 0, 23) else if b.length - at_ < n then ([], 0, 20) else
      if (b.headD 0).toNat / 2 ^ 7 % 2 = 0 then ((b.drop at_).take n, at_ + n, 0) else
      match unhuf ((b.drop at_).take n) with
      | (s, e) => if e ≠ 0 then ([], 0, e) else (s, at_ + n, 0)) := by show _ = _; rw [hD1.out, if_neg he]
    clear hD1 hrg he
    by_cases h4 : 4096 < n
    · have hD3 : Hid (strD b 7 = ([], 0, 23)) := by show _ = _; rw [hD2.out, if_pos h4]
      have HRD := Lib.hid hrd
      have HR := Lib.hid hR
      clear hrd hR
      clear hD2
      go_enter Try.func38, Try.ntmps38
      go_wp2_with (go_at_call 60; refine HRD.out.mono ?_; rintro e w2 ⟨rfl, nn, rfl⟩)
      go_ret3
      unfold RetS
      rw [hD3.out]
      exact ⟨rfl, (Frm.refl _ _).drewN nn⟩
    · have hw1 : IntKind.u64.wrap ((b.length : Int) - (at_ : Int)) = ((b.length - at_ : Nat) : Int) := by
        rw [show ((b.length : Int) - (at_ : Int)) = ((b.length - at_ : Nat) : Int) from by omega]; exact IntWalk.u64_in _ (by omega)
      by_cases hm : b.length - at_ < n
      · have hD3 : Hid (strD b 7 = ([], 0, 20)) := by show _ = _; rw [hD2.out, if_neg h4, if_pos hm]
        have HRD := Lib.hid hrd
        have HR := Lib.hid hR
        clear hrd hR
        clear hD2
        generalize hml : b.length - at_ = ml at *
        have HML := Lib.hid hml
        clear hml
        go_enter Try.func38, Try.ntmps38
        go_wp2_with (go_at_call 60; refine HRD.out.mono ?_; rintro e w2 ⟨rfl, nn, rfl⟩)
        go_ret3
        unfold RetS
        rw [hD3.out]
        exact ⟨rfl, (Frm.refl _ _).drewN nn⟩
      · obtain ⟨A2, hA2, hR2⟩ := hR.sub hc at_ n
        have hb1 : 0 < b.length := by omega
        obtain ⟨gb, off, hAe, hx0⟩ := hR.at_ (k := 0) (by rw [bvs_length]; exact hb1)
        subst hAe
        have hx1 : (b.headD 0).toNat < 256 := (b.headD 0).toNat_lt
        have hx : w.cell? ⟨gb, off, none⟩ = some (.int .u8 ((b.headD 0).toNat : Int)) := by
          rw [Nat.add_zero] at hx0
          rw [hx0]
          cases b with
          | nil => simp at hb1
          | cons x r => rfl
        clear hx0
        have hand := head_and _ hx1
        have hand' := head_and' _ hx1
        have hD3 : Hid (strD b 7 = if (b.headD 0).toNat / 128 % 2 = 0 then ((b.drop at_).take n, at_ + n, 0) else
          match unhuf ((b.drop at_).take n) with
          | (s, e) => if e ≠ 0 then ([], 0, e) else (s, at_ + n, 0)) := by show _ = _; rw [hD2.out, if_neg h4, if_neg hm]
        clear hD2
        generalize (b.headD 0).toNat / 128 % 2 = hb at *
        generalize (b.headD 0).toNat = hd at *
        have hln : ((b.drop at_).take n).length = n := by rw [List.length_take, List.length_drop]; omega
        generalize hbl : (b.drop at_).take n = l at *
        have hcv := fun q => run_conv (c := c - at_) (hR2.fresh ((Frm.refl (New w) w).drewN q))
        simp only [str] at hcv
        have hun := fun w' h => unhuffman_any l A2 (c - at_) w' h (by omega)
        rw [hln] at hcv hun
        have hi1 : IntKind.i64.wrap ((at_ : Int) + (n : Int)) = ((at_ + n : Nat) : Int) := by
          rw [show ((at_ : Int) + (n : Int)) = ((at_ + n : Nat) : Int) from by omega]; exact IntWalk.i64_in _ (by omega)
        have hCut : ∀ (o : Oper) (a : Act) (w' : World) (x lo hi : Operand) (u v : Int), o.op = .slice 22 x (some lo) (some hi) none → a.eval x = .slice (some ⟨gb, off, none⟩) b.length c → a.eval lo = .int .i64 u → a.eval hi = .int .i64 v → u = (at_ : Int) → v = ((at_ + n : Nat) : Int) →
            (execOp a.eval o).run Try.prog w' = .ok (.value (.slice A2 n (c - at_))) w' := fun o a w' x lo hi u v h1 h2 h3 h4 h5 h6 => by
          have := run_cut (w := w') h1 h2 h3 h4 h5 h6 (by omega) (by omega)
          rw [hA2, Nat.add_sub_cancel_left] at this
          exact this
        have HRD := Lib.hid hrd
        have HR := Lib.hid hR
        have HR2 := Lib.hid hR2
        have HA2 := Lib.hid hA2
        have HLN := Lib.hid hln
        have HBL := Lib.hid hbl
        have HUN := Lib.hid hun
        have HCV := Lib.hid hcv
        have HCUT := Lib.hid hCut
        clear hrd hR hR2 hA2 hln hbl hun hcv hCut
        by_cases h0 : hb = 0
        · subst h0
          have hD4 : Hid (strD b 7 = (l, at_ + n, 0)) := by show _ = _; rw [hD3.out, if_pos rfl]
          clear hD3 HUN
          have hcv := HCV.out
          go_enter Try.func38, Try.ntmps38
          go_wp2_with (first
            | (go_at_call 60; refine HRD.out.mono ?_; rintro e w2 ⟨rfl, nn, rfl⟩)
            | (refine wpList_val rfl (.slice A2 n (c - at_)) (HCUT.out _ _ _ _ _ _ _ _ rfl rfl rfl rfl rfl rfl) ?_))
          go_ret3
          unfold RetS
          rw [hD4.out]
          exact ⟨rfl, (Frm.refl _ _).drewN nn⟩
        · have h0' : ((hb : Int) == 0) = false := by rw [beq_eq_false_iff_ne]; omega
          have hD4 : Hid (strD b 7 = match unhuf l with | (s, e) => if e ≠ 0 then ([], 0, e) else (s, at_ + n, 0)) := by show _ = _; rw [hD3.out, if_neg h0]
          clear hD3
          have hun := HUN.out
          clear HUN
          generalize unhuf l = q at *
          obtain ⟨s, e⟩ := q
          simp only [str] at hun
          have hD5 : Hid (strD b 7 = if e ≠ 0 then ([], 0, e) else (s, at_ + n, 0)) := hD4.out
          have HUN := Lib.hid hun
          clear hun
          clear hD4
          by_cases he : e = 0
          · subst he
            have hD6 : Hid (strD b 7 = (s, at_ + n, 0)) := by show _ = _; rw [hD5.out, if_neg (by simp)]
            clear hD5
            go_enter Try.func38, Try.ntmps38
            go_wp2_with (first
              | (go_at_call 60; refine HRD.out.mono ?_; rintro e w2 ⟨rfl, nn, rfl⟩)
              | (refine wpList_val rfl (.slice A2 n (c - at_)) (HCUT.out _ _ _ _ _ _ _ _ rfl rfl rfl rfl rfl rfl) ?_)
              | (go_at_call 70; refine (HUN.out _ (HR2.out.fresh ((Frm.refl _ _).drewN nn))).mono ?_; rintro e w3 ⟨rfl, hF3⟩))
            go_ret3
            unfold RetS
            rw [hD6.out]
            exact ⟨rfl, Frm.trans ((Frm.refl _ _).drewN nn) (hF3.mono (fun k hk => by simpa [New] using hk))⟩
          · have hD6 : Hid (strD b 7 = ([], 0, e)) := by show _ = _; rw [hD5.out, if_pos he]
            have he2 : ((e : Int) == 0) = false := by rw [beq_eq_false_iff_ne]; omega
            clear hD5
            go_enter Try.func38, Try.ntmps38
            go_wp2_with (first
              | (go_at_call 60; refine HRD.out.mono ?_; rintro e w2 ⟨rfl, nn, rfl⟩)
              | (refine wpList_val rfl (.slice A2 n (c - at_)) (HCUT.out _ _ _ _ _ _ _ _ rfl rfl rfl rfl rfl rfl) ?_)
              | (go_at_call 70; refine (HUN.out _ (HR2.out.fresh ((Frm.refl _ _).drewN nn))).mono ?_; rintro e w3 ⟨rfl, hF3⟩))
            go_ret3
            unfold RetS
            rw [hD6.out]
            exact ⟨rfl, Frm.trans ((Frm.refl _ _).drewN nn) (hF3.mono (fun k hk => by simpa [New] using hk))⟩
end Go.Proofs.Ytcebckkpablagaa.M
