/- hdec's block. -/
import Derived.Deep.CutBlock
import Derived.Deep.LoopGhost
import Derived.Test.YtcebckkpablagaaHln
namespace Go.Proofs.Ytcebckkpablagaa.M
open Go.ChangeShapes Go.WideShapes Go.ChangeAt Go.RowKit

/-- a whole block is read -/
def BlkR (w : World) (S : Nat → Prop) (pd g : Nat) (D : De) (pr : Nat) (o : Option (List Fld × Tb)) (e : Ending) (w' : World) : Prop :=
  match o with
  | some (l, T) => e = .returned (.tuple #[]) ∧ ∃ S2 up A2 c2 A4 c4, HRM w S pd g D pr S2 T false up l [] A2 c2 A4 c4 w'
  | none => e = PW ∧ HSome w S pd g D pr w'

theorem UpR.elim {c : Prop} {K1 K2 : World → Prop} {e : Ending} {w' : World} (h : UpR c K1 K2 e w') : (c ∧ e = .returned (.tuple #[]) ∧ K1 w') ∨ (¬ c ∧ e = PW ∧ K2 w') := by
  by_cases hc : c
  · exact .inl ⟨hc, h.1 hc⟩
  · exact .inr ⟨hc, h.2 hc⟩

set_option maxRecDepth 100000 in
set_option maxHeartbeats 4000000 in
theorem block_any {w wr : World} {S : Nat → Prop} {pd g pr c : Nat} {D : De} {b : Bytes} {A : Option Addr} {o : Option (List Fld × Tb)} (h : HRM w S pd g D pr S D.t D.must 0 [] b A c none 0 wr) (hn : D.t.n + b.length ≤ 1152921504606846975)
    (hE : o = decGo D.max D.must b.length D.t 0 [] b) : Calls Try.prog 67 #[.pointer (some ⟨pr, 0, none⟩)] wr (BlkR w S pd g D pr o) := by
  have hE0 : Hid (o = decGo D.max D.must b.length D.t 0 [] b) := hE
  clear hE
  have hM0 : Hid (HRM w S pd g D pr S D.t (D.must && decide (0 = 0)) 0 [] b A c none 0 wr) := by show HRM _ _ _ _ _ _ _ _ _ _ _ _ _ _ _ _ _; simpa using h
  clear h
  go_enter Try.func67, Try.ntmps67
  go_wp2
  go_loopg [] b.length (fun kk wx => ∃ (fu : Nat) (T : Tb) (sz : Nat) (out : List Fld) (r : Bytes) (A : Option Addr) (c : Nat) (Ao : Option Addr) (co : Nat) (S' : Nat → Prop), r.length ≤ kk ∧ r.length ≤ fu ∧ sz ≤ 2 ∧ out.length ≤ 64 ∧ T.n + r.length ≤ 1152921504606846975 ∧
    Hid (o = decGo D.max D.must fu T sz out r) ∧ Hid (HRM w S pd g D pr S' T (D.must && decide (sz = 0)) sz out r A c Ao co wx))
  case atStart => exact ⟨b.length, D.t, 0, [], b, A, c, none, 0, S, Nat.le_refl _, Nat.le_refl _, by omega, by simp, hn, hE0, hM0⟩
  case round =>
    obtain ⟨fu, T, sz, out, r, A, c, Ao, co, S', hkk, hfu, hsz, hout, hTn, hE, hM⟩ := hrel
    clear hM0 hE0
    have hmu0 : (D.must && decide (sz = 0)) = true ↔ D.must = true ∧ sz = 0 := by simp
    generalize hmu : (D.must && decide (sz = 0)) = mu at *
    have HMU := Lib.hid hmu
    have HMU0 := Lib.hid hmu0
    clear hmu hmu0
    obtain ⟨hy0, hy1, hy2, hy3, hy4, hy5, hy6, hy7, hy8⟩ := hM.out.cells
    cases r with
    | nil =>
      have hE2 : Hid (o = if D.must = true ∧ sz = 0 then none else some (out, T)) := by show _ = _; rw [hE.out]; cases fu <;> rfl
      clear hE
      rw [show ([] : Bytes).length = 0 from rfl] at hy1
      cases mu with
      | true =>
        go_wp2_with (fail)
        refine (must_false _).mono ?_
        rintro e' w8 ⟨rfl, hw8⟩
        rw [hw8]
        clear hw8
        unfold PW
        go_wp2
        refine ⟨rfl, ?_⟩
        rw [hE2.out, if_pos (HMU0.out.1 (by trivial))]
        exact ⟨rfl, S', T, _, sz, out, _, A, c, Ao, co, hM.out⟩
      | false =>
        go_wp2_with (fail)
        refine (must_true _).mono ?_
        rintro e' w8 ⟨rfl, hw8⟩
        rw [hw8]
        clear hw8
        go_wp2
        go_end0
        rw [hE2.out, if_neg (fun q => by have := HMU0.out.2 q; cases this)]
        exact ⟨rfl, S', sz, A, c, Ao, co, hM.out⟩
    | cons x t =>
      have hxb : x.toNat < 256 := x.toNat_lt
      have hlr : 0 < (x :: t).length := by simp
      obtain ⟨gb, off, rfl, hx0⟩ := hM.out.rd.at_ (k := 0) (by rw [bvs_length]; exact hlr)
      have hx : wr.cell? ⟨gb, off, none⟩ = some (.int .u8 (x.toNat : Int)) := by simpa [bvs, bv] using hx0
      have hgb := World.block_lt_of_cell? _ _ hx
      clear hx0
      cases fu with
      | zero => simp at hfu
      | succ fu =>
        by_cases h5 : x.toNat / 32 = 1
        · have hq : ((x.toNat : Int) / 32 == 1) = true := by rw [beq_iff_eq]; omega
          have hE2 : Hid (o = match rdp (x :: t) 5 with
            | (n, k, e) => if e ≠ 0 ∨ D.max < n ∨ out ≠ [] ∨ 2 ≤ sz then none else decGo D.max D.must fu (T.resize n) (sz + 1) out ((x :: t).drop k)) := by
            show _ = _
            rw [hE.out, decGo, if_pos h5]
          clear hE
          have hup := update_any hM.out hsz hout
          have hrg := rdp_range (x :: t) 5 (by decide)
          have hTR : ∀ n, (T.resize n).n = T.n := fun n => rfl
          generalize rdp (x :: t) 5 = q at *
          obtain ⟨n, k, e⟩ := q
          simp only at hup hrg
          have hE3 : Hid (o = if e ≠ 0 ∨ D.max < n ∨ out ≠ [] ∨ 2 ≤ sz then none else decGo D.max D.must fu (T.resize n) (sz + 1) out ((x :: t).drop k)) := hE2.out
          clear hE2
          generalize hr : x :: t = r at *
          have hTn2 := hTn
          have HUP := Lib.hid hup
          have HRG := Lib.hid hrg
          have HR := Lib.hid hr
          have HTR := Lib.hid hTR
          have HTN2 := Lib.hid hTn2
          have HFU := Lib.hid hfu
          have HKK := Lib.hid hkk
          clear hup hrg hr hTR hTn2 hfu hkk
          go_wp2_with (fail)
          refine HUP.out.mono ?_
          rintro e' w2 hu
          rcases hu.elim with ⟨⟨c1, c2, c3, c4⟩, rfl, A2, cc2, hM2⟩ | ⟨hc, rfl, hs⟩
          · obtain ⟨g1, g2, g3⟩ := HRG.out c1
            have hE4 : Hid (o = decGo D.max D.must fu (T.resize n) (sz + 1) out (r.drop k)) := by
              show _ = _
              rw [hE3.out, if_neg (by simp [c1, c3]; omega)]
            have hM3 : Hid (HRM w S pd g D pr S' (T.resize n) (D.must && decide (sz + 1 = 0)) (sz + 1) out (r.drop k) A2 cc2 Ao co w2) := by
              show HRM _ _ _ _ _ _ _ _ _ _ _ _ _ _ _ _ _
              simpa using hM2
            have hd : (r.drop k).length = r.length - k := List.length_drop
            clear hM2 hu
            go_wp2
            go_roundg (gk - 1)
            case measure => have := HKK.out; omega
            case rel =>
              refine ⟨fu, T.resize n, sz + 1, out, r.drop k, A2, cc2, Ao, co, S', ?_, ?_, by omega, by omega, ?_, hE4, hM3⟩
              · rw [hd]; have := HKK.out; omega
              · rw [hd]; have := HFU.out; omega
              · rw [hd, HTR.out]; have := HTN2.out; omega
          · have hE4 : Hid (o = none) := by
              show _ = _
              rw [hE3.out, if_pos]
              apply Classical.byContradiction
              intro hz
              apply hc
              simp only [not_or] at hz
              refine ⟨by omega, by omega, ?_, by omega⟩
              have := hz.2.2.1
              exact Classical.byContradiction this
            unfold PW
            go_wp2
            refine ⟨rfl, ?_⟩
            rw [hE4.out]
            exact ⟨rfl, hs⟩
        · have hq : ((x.toNat : Int) / 32 == 1) = false := by rw [beq_eq_false_iff_ne]; omega
          have hE2 : Hid (o = if (D.must = true ∧ sz = 0) ∨ 64 ≤ out.length then none else match lineD T (x :: t) with
            | none => none
            | some (x, add, b) => decGo D.max D.must fu (if add then T.add x else T) sz (out ++ [x]) b) := by
            show _ = _
            rw [hE.out, decGo, if_neg h5]
            rfl
          clear hE
          have hln := line_any hM.out x t rfl hout (by omega)
          have hlr2 := lineD_range T (x :: t)
          generalize hr : x :: t = r at *
          have HLN := Lib.hid hln
          have HR := Lib.hid hr
          have HLR2 := Lib.hid hlr2
          have HTN := Lib.hid hTn
          have HFU := Lib.hid hfu
          have HKK := Lib.hid hkk
          have HE2 := Lib.hid hE2
          clear hln hr hlr2 hTn hfu hkk hE2
          cases mu with
          | true =>
            go_wp2_with (fail)
            refine (must_false _).mono ?_
            rintro e' w8 ⟨rfl, hw8⟩
            rw [hw8]
            clear hw8
            unfold PW
            go_wp2
            refine ⟨rfl, ?_⟩
            rw [HE2.out, if_pos (.inl (HMU0.out.1 (by trivial)))]
            exact ⟨rfl, S', T, _, sz, out, _, _, c, Ao, co, hM.out⟩
          | false =>
            have hnm : Hid (¬ (D.must = true ∧ sz = 0)) := fun q => by have := HMU0.out.2 q; cases this
            go_wp2_with (fail)
            refine (must_true _).mono ?_
            rintro e' w8 ⟨rfl, hw8⟩
            rw [hw8]
            clear hw8
            go_wp2_with (fail)
            refine HLN.out.mono ?_
            rintro e' w2 hu
            rcases hu.elim with ⟨⟨c1, c2⟩, rfl, f, add, r2, S2, A2, cc2, A3, co2, hl, hM2⟩ | ⟨hc, rfl, hs⟩
            · have hE4 : Hid (o = decGo D.max D.must fu (if add then T.add f else T) sz (out ++ [f]) r2) := by
                show _ = _
                rw [HE2.out, if_neg (by rintro (q | q); exact hnm.out q; omega), hl]
              have hM3 : Hid (HRM w S pd g D pr S2 (if add then T.add f else T) (D.must && decide (sz = 0)) sz (out ++ [f]) r2 A2 cc2 A3 co2 w2) := by
                show HRM _ _ _ _ _ _ _ _ _ _ _ _ _ _ _ _ _
                rw [HMU.out]
                exact hM2
              have hd := HLR2.out _ hl
              have hTA : (if add then T.add f else T).n ≤ T.n + 1 := by
                cases add
                · simp
                · simp only [↓reduceIte, Tb.add]; split <;> simp
              have hol : (out ++ [f]).length = out.length + 1 := by simp
              simp only at hd
              have HD := Lib.hid hd
              have HTA := Lib.hid hTA
              have HOL := Lib.hid hol
              clear hd hTA hol
              clear hM2 hu hl c1
              go_wp2
              go_roundg (gk - 1)
              case measure => have := HKK.out; omega
              case rel =>
                refine ⟨fu, (if add then T.add f else T), sz, out ++ [f], r2, A2, cc2, A3, co2, S2, ?_, ?_, by omega, ?_, ?_, hE4, hM3⟩
                · have := HD.out; have := HKK.out; omega
                · have := HD.out; have := HFU.out; omega
                · rw [HOL.out]; omega
                · have := HD.out; have := HTA.out; have := HTN.out; omega
            · have hE4 : Hid (o = none) := by
                show _ = _
                rw [HE2.out]
                split
                · rfl
                · next hz =>
                  cases hl : lineD T r with
                  | none => rfl
                  | some q => exact absurd ⟨by rw [hl]; rfl, by omega⟩ hc
              unfold PW
              go_wp2
              refine ⟨rfl, ?_⟩
              rw [hE4.out]
              exact ⟨rfl, hs⟩
end Go.Proofs.Ytcebckkpablagaa.M
