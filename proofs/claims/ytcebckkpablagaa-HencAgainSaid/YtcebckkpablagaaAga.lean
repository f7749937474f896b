/- bifoldlaw7.HencAgain: for every input it tells true. Strings below 2^50. -/
import Derived.Test.YtcebckkpablagaaFin
import Derived.Test.YtcebckkpablagaaAgap
namespace Go.Proofs.Ytcebckkpablagaa.M
open Go.ChangeShapes Go.WideShapes Go.ChangeAt Go.RowKit

theorem and_128 (x : Nat) (h0 : 128 ≤ x) (h1 : x < 256) : bits .and .u8 (x : Int) 128 = 128 := by
  have key : ∀ x : Fin 256, 128 ≤ x.val → bits .and .u8 (x.val : Int) 128 = 128 := by decide +kernel
  exact key ⟨x, h1⟩ h0

set_option maxRecDepth 100000 in
set_option maxHeartbeats 2000000 in
theorem again_walk (A : Option Addr) (n c : Nat) (l : List Fld) (W : World) (h : FIn W A n c l) :
    Calls Try.prog 4 #[.slice A n c] W fun e w' => e = .returned (.bool true) ∧ Below W.heap.size W w' := by
  obtain ⟨hn, hR, hlow, hnil, hcap, hmax, hsm⟩ := h
  have hcz : c ≤ 9223372036854775807 := hmax
  subst hn
  have HR := Lib.hid hR
  have HSM := Lib.hid hsm
  have HLOW := Lib.hid hlow
  clear hR hlow hnil hmax hsm
  by_cases q1 : 10 < l.length
  · go_enter Try.func4, Try.ntmps4
    go_wp2_with (go_at_call 15; refine (known7_any _).mono ?_; rintro e w1 ⟨rfl, hF1⟩; have HF1 := Lib.hid hF1; clear hF1)
    go_ret
    exact ⟨rfl, HF1.out.below⟩
  have hL : ∀ w, Frm (New W) W w → Calls Try.prog 18 #[.slice A l.length c] w fun e w' => e = .returned (.bool (light l)) ∧ Frm (New w) w w' := fun w hw =>
    light_any l A c w (HR.out.fresh hw) HSM.out (by omega)
  have HQ : Hid (light l = decide (l.length ≤ 70 ∧ lsum l ≤ 3000)) := rfl
  generalize light l = li at *
  have HL := Lib.hid hL
  clear hL
  cases li with
  | false =>
    go_enter Try.func4, Try.ntmps4
    go_wp2_with (first
      | (go_at_call 15; refine (known7_any _).mono ?_; rintro e w1 ⟨rfl, hF1⟩; have HF1 := Lib.hid hF1; clear hF1)
      | (go_at_call 18; refine (HL.out _ HF1.out).mono ?_; rintro e w2 ⟨rfl, hF2⟩; have HF2 := Lib.hid hF2; clear hF2))
    go_ret
    exact ⟨rfl, (HF1.out.then_new Up.new HF2.out).below⟩
  | true =>
    have hls : lsum l ≤ 3000 := (of_decide_eq_true HQ.out.symm).2
    have hfs := fsizes_lsum l
    clear HQ
    go_enter Try.func4, Try.ntmps4
    go_wp2_with (first
      | (go_at_call 15; refine (known7_any _).mono ?_; rintro e w1 ⟨rfl, hF1⟩; have HF1 := Lib.hid hF1; clear hF1)
      | (go_at_call 18; refine (HL.out _ HF1.out).mono ?_; rintro e w2 ⟨rfl, hF2⟩; have HF2 : Hid (Frm (New W) W w2) := HF1.out.then_new Up.new hF2; clear hF2))
    clear HL HF1
    go_loopw [3, 4] (fun s i wr => ∃ k : Nat, k ≤ l.length ∧ i = .int .i64 k ∧ s = .int .i64 (fsizes (l.take k) : Nat) ∧ Hid (∀ f ∈ l.take k, secret f.1 = false) ∧ Hid (Frm (New W) W wr)) (fun _ i _ => l.length - (intOf i).toNat)
    case atStart => exact ⟨0, Nat.zero_le _, rfl, rfl, fun f hf => by (simp at hf), HF2⟩
    case round =>
      obtain ⟨k, hk, rfl, rfl, hsec, hF⟩ := hrel
      clear HF2
      by_cases hlt : k < l.length
      · have hRd := HR.out.fresh hF.out
        obtain ⟨g, off, rfl, hx⟩ := hRd.at_ (k := k * 2) (by rw [fvs_length]; omega)
        clear hx
        obtain ⟨hc1, hc2⟩ := fld_cells hRd k hlt
        have hg : g < wr.heap.size := World.block_lt_of_cell? _ _ hc1
        have hst := Lib.hid (fsizes_take l k hlt)
        have hle := fsizes_le l (k + 1)
        have hle2 : fsizes (l.take k) + fsize l[k] ≤ fsizes l := by rw [← fsizes_take l k hlt]; exact hle
        have htk : Hid (l.take (k + 1) = l.take k ++ [l[k]]) := List.take_succ_eq_append_getElem hlt
        clear hRd hle
        generalize hz : fsizes (l.take k) = z at *
        generalize l[k] = f at *
        obtain ⟨f1, f2⟩ := f
        have e1 := str_size f1
        have e2 := str_size f2
        have hfz : fsize (f1, f2) = f1.length + f2.length + 32 := rfl
        rw [hfz] at hle2
        simp only [str] at hc1 hc2
        have HZ := Lib.hid hz
        have HFZ := Lib.hid hfz
        clear hz hfz
        have hw1 : IntKind.i64.wrap ((f1.length : Int) + (f2.length : Int)) = ((f1.length + f2.length : Nat) : Int) := by
          rw [show ((f1.length : Int) + (f2.length : Int)) = ((f1.length + f2.length : Nat) : Int) from by omega]
          exact IntWalk.i64_in _ (by omega)
        have hw2 : IntKind.i64.wrap (((f1.length + f2.length : Nat) : Int) + 32) = ((f1.length + f2.length + 32 : Nat) : Int) := by
          rw [show (((f1.length + f2.length : Nat) : Int) + 32) = ((f1.length + f2.length + 32 : Nat) : Int) from by omega]
          exact IntWalk.i64_in _ (by omega)
        have hw3 : IntKind.i64.wrap ((z : Int) + ((f1.length + f2.length + 32 : Nat) : Int)) = ((z + (f1.length + f2.length + 32) : Nat) : Int) := by
          rw [show ((z : Int) + ((f1.length + f2.length + 32 : Nat) : Int)) = ((z + (f1.length + f2.length + 32) : Nat) : Int) from by omega]
          exact IntWalk.i64_in _ (by omega)
        generalize hq3 : f1.length + f2.length = q at *
        generalize hq4 : q + 32 = q2 at *
        generalize hzq : z + q2 = zq at *
        have hSc : ∀ w', Calls Try.prog 19 #[.string ⟨f1.toArray⟩] w' fun e w'' => e = .returned (.bool (secret f1)) ∧ w'' = w' := fun w' => rsecret_any f1 w'
        have hsq : Hid (secret f1 = secret f1) := rfl
        generalize hsx : secret f1 = sx at hSc
        have HSX := Lib.hid hsx
        have HSC := Lib.hid hSc
        clear hSc hsx hsq
        go_wp2
        go_quiet (fail)
        have hc3 : (wr.drewN nq).cell? ⟨g, off + k * 2, none⟩ = some (.string ⟨f1.toArray⟩) := hc1
        cases sx with
        | true =>
          go_wp2_with (go_at_call 19; refine (HSC.out _).mono ?_; rintro e w9 ⟨rfl, rfl⟩)
          go_ret
          exact ⟨rfl, (hF.out.drewN _).below⟩
        | false =>
          go_wp2_with (go_at_call 19; refine (HSC.out _).mono ?_; rintro e w9 ⟨rfl, rfl⟩)
          go_roundw
          case rel =>
            have ez : fsizes (l.take (k + 1)) = zq := by rw [hst.out, HFZ.out, hzq]
            refine ⟨k + 1, by omega, by go_num, by rw [ez], fun x hx => ?_, hF.out.drewN _⟩
            rw [htk.out] at hx
            rcases List.mem_append.1 hx with hx | hx
            · exact hsec.out x hx
            · simp only [List.mem_cons, List.not_mem_nil, or_false] at hx
              rw [hx]; exact HSX.out
          case measure => simp [intOf]; omega
      · obtain rfl : k = l.length := by omega
        rw [List.take_length] at hsec
        simp only [List.take_length]
        by_cases q3 : 2048 < fsizes l
        · go_wp2
          go_ret
          exact ⟨rfl, hF.out.below⟩
        · obtain ⟨hb1, hb2, hb3⟩ := again_all l (by omega) hsec.out (by omega)
          have hn0 : (En.new 4096).t.n = 0 := rfl
          generalize hE0 : En.new 4096 = E0 at *
          have HEQ := Lib.hid hE0
          have hn1 := linesT_n E0.t l
          have HN0 : Hid (E0.t.n + l.length ≤ 1152921504606846976) := by show _ ≤ _; omega
          have HN1 : Hid ((E0.enc l).t.n + l.length ≤ 1152921504606846976) := by
            show (linesT E0.t l).n + l.length ≤ _
            omega
          have hfz : Hid (fsizes l ≤ 68719476736) := by show _ ≤ _; omega
          have HB3 := Lib.hid hb3
          have t1 := trivial
          generalize hab : E0.encB l = ab at *
          generalize hbb : (E0.enc l).encB l = bb at *
          have HAB := Lib.hid hab
          have HBB := Lib.hid hbb
          clear hE0 hn0 hn1 hb3 hab hbb
          have HB1 := Lib.hid hb1
          clear hb1
          go_upto_region 19 with (first
            | (go_at_call 20
               refine (enew_any 4096 (by omega) (by omega) _).mono ?_
               rintro e w3 ⟨S, p, g, rfl, hE3, hF3, hS3, hp3⟩
               rw [HEQ.out] at hE3
               have HE3 := Lib.hid hE3
               have h0 := hF.out.size
               have HF3 : Hid (Frm (New W) W w3) := hF.out.then_new Up.new hF3
               have HS3 : Hid (∀ k, S k → W.heap.size ≤ k) := fun k hk => Nat.le_trans h0 (hS3 k hk)
               have hp3 : Hid (W.heap.size ≤ p) := Nat.le_trans h0 hp3
               have HFar : Hid (∀ j, M.blk A = some j → j ≠ p ∧ ¬ S j) := fun j hj =>
                 ⟨fun e => Nat.lt_irrefl _ (Nat.lt_of_lt_of_le (HLOW.out j hj) (by rw [e]; exact hp3.out)), fun c => Nat.lt_irrefl _ (Nat.lt_of_lt_of_le (HLOW.out j hj) (HS3.out j c))⟩
               clear hE3 hF3 hS3 h0)
            | (go_at_call 21
               clear t1
               refine (encB_any l A c _ HE3.out (HR.out.fresh HF3.out) HFar.out hfz.out HN0.out).mono ?_
               rintro e w5 ⟨S5, A5, c5, rfl, _, _, hE5, hF5, hS5⟩
               have h0 := HF3.out.size
               have HF5 : Hid (Frm (New W) W w5) := HF3.out.trans (hF5.mono (fun j hj => by
                 rcases hj with hj | hj | hj
                 · rw [hj]; exact hp3.out
                 · exact HS3.out j hj
                 · exact Nat.le_trans h0 hj))
               have HS5 : Hid (∀ k, S5 k → W.heap.size ≤ k) := fun k hk => by
                 rcases hS5 k hk with c | c
                 · exact HS3.out k c
                 · exact Nat.le_trans h0 c
               have HFar5 : Hid (∀ j, M.blk A = some j → j ≠ p ∧ ¬ S5 j) := fun j hj =>
                 ⟨(HFar.out j hj).1, fun c => Nat.lt_irrefl _ (Nat.lt_of_lt_of_le (HLOW.out j hj) (HS5.out j c))⟩
               have HE5 := Lib.hid hE5
               rw [HAB.out]
               clear hE5 hF5 hS5 h0)
            | (go_at_call 21
               refine (encB_any l A c _ HE5.out (HR.out.fresh HF5.out) HFar5.out hfz.out HN1.out).mono ?_
               rintro e w6 ⟨S6, A6, c6, rfl, hA6, _, _, hF6, _⟩
               have h0 := HF5.out.size
               have HF6 : Hid (Frm (New W) W w6) := HF5.out.trans (hF6.mono (fun j hj => by
                 rcases hj with hj | hj | hj
                 · rw [hj]; exact hp3.out
                 · exact HS5.out j hj
                 · exact Nat.le_trans h0 hj))
               rw [HBB.out] at hA6 ⊢
               have HR6 := Lib.hid hA6.rd
               clear hA6 hF6 h0))
          have hbl : bb.length ≤ 10 := by rw [HB1.out]; omega
          go_wp2
          go_loopw [8, 9] (fun n i wr => ∃ k : Nat, i = .int .i64 k ∧ n = .int .i64 k ∧ k ≤ bb.length ∧ Hid (Frm (New w6) w6 wr)) (fun _ i _ => bb.length - (intOf i).toNat)
          case atStart => exact ⟨0, rfl, rfl, Nat.zero_le _, Frm.refl _ _⟩
          case round =>
            obtain ⟨k, rfl, rfl, hk, hF7⟩ := hrel
            by_cases hlt : k < bb.length
            · obtain ⟨gb, offb, rfl, hcb⟩ := (HR6.out.fresh hF7.out).at_ (k := k) (by simpa [bvs] using hlt)
              have hv : (bvs bb)[k]'(by simpa [bvs] using hlt) = .int .u8 (bb[k].toNat : Int) := by simp [bvs, bv]
              rw [hv] at hcb
              have hgb : gb < wr.heap.size := World.block_lt_of_cell? _ _ hcb
              obtain ⟨hx0, hx1⟩ := HB3.out _ (List.getElem_mem hlt)
              clear hv
              generalize bb[k].toNat = x at *
              have hand := and_128 x hx0 (by omega)
              have hne : ¬ ((x : Int) = 255) := by omega
              go_wp2
              go_roundw
              case rel => exact ⟨k + 1, by go_num, by go_num, by omega, hF7⟩
              case measure => simp [intOf]; omega
            · obtain rfl : k = bb.length := by omega
              have hle1 : bb.length ≤ ab.length := by rw [HB1.out]; exact hb2
              have heq1 : (bb.length : Int) = (l.length : Int) := by rw [HB1.out]
              go_wp2
              go_ret
              exact ⟨rfl, (HF6.out.then_new Up.new hF7.out).below⟩
end Go.Proofs.Ytcebckkpablagaa.M
