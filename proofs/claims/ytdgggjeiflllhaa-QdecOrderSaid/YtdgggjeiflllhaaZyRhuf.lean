/- Rhuf -/
import Derived.Test.YtdgggjeiflllhaaZyHufa
import Derived.Test.YtdgggjeiflllhaaZyArr

namespace Go.Proofs.Ytdgggjeiflllhaa.M
open Go.ChangeShapes Go.WideShapes Go.ChangeAt Go.RowKit
theorem wpList_lit {P : Program} {ops : Array Oper} {rest : List Oper} {o : Oper} {a : Act} {Q : Exit → Act → World → Prop} {w : World} (hgd : o.guard = none) (e : TypeId) (n : Nat) (cs : Array Value)
    (hr : ∀ w, (execOp a.eval o).run P w = .ok (.value (.slice (some ⟨w.heap.size, 0, none⟩) n n)) (w.alloc (.cells cs e)))
    (h : ∀ w', Blk w' w.heap.size e cs → Frm (New w) w w' → w'.heap.size = w.heap.size + 1 → wpList P ops Q rest (a.put o.dst (.slice (some ⟨w.heap.size, 0, none⟩) n n)) w') : wpList P ops Q (o :: rest) a w :=
  wpList_run hgd (hr w) (h _ (Blk.new w e cs) ((Frm.refl _ _).alloc Up.new _) (by simp))
set_option maxRecDepth 100000 in
set_option maxHeartbeats 4000000 in
theorem rlengths_any (w : World) : Calls Try.prog 142 #[] w fun e w' => ∃ g, e = .returned (.slice (some ⟨g, 0, none⟩) 257 257) ∧ w.heap.size ≤ g ∧ Blk w' g 3 (vN .i64 lens) ∧ Frm (New w) w w' := by
  go_enter Try.func142, Try.ntmps142
  go_wp2_with (refine wpList_lit rfl 3 257 (vN .i64 lens) (fun w => by kernel_rfl) ?_; intro w1 hb1 hF1 hs1)
  go_ret
  exact ⟨w.heap.size, rfl, Nat.le_refl _, hb1, hF1⟩
def rStep (n s : Nat) (st : Nat × Nat × List (Nat × Nat)) : Nat × Nat × List (Nat × Nat) :=
  if lens.getD s 0 = n then
    let c := if 0 < st.2.1 then (st.1 + 1) % 4294967296 * 2 ^ (n - st.2.1) % 4294967296 else st.1
    (c, n, st.2.2.set s (c, n))
  else st
def rIn (n : Nat) (st : Nat × Nat × List (Nat × Nat)) : Nat → Nat × Nat × List (Nat × Nat)
  | 0 => st
  | k + 1 => rStep n k (rIn n st k)
def rOut : Nat → Nat × Nat × List (Nat × Nat)
  | 0 => (0, 0, List.replicate 257 (0, 0))
  | j + 1 => rIn (5 + j) (rOut j) 257
theorem rOut_codes : (rOut 26).2.2 = codes := by decide +kernel
structure RSt (n : Nat) (st : Nat × Nat × List (Nat × Nat)) : Prop where
  c : st.1 < 4294967296
  had : st.2.1 ≤ n
  len : st.2.2.length = 257
theorem RSt.step {n s : Nat} {st : Nat × Nat × List (Nat × Nat)} (h : RSt n st) : RSt n (rStep n s st) := by
  unfold rStep
  split
  · refine ⟨?_, Nat.le_refl _, by simp [h.len]⟩
    simp only
    split
    · exact Nat.mod_lt _ (by decide)
    · exact h.c
  · exact h
theorem RSt.in_ {n : Nat} {st : Nat × Nat × List (Nat × Nat)} (h : RSt n st) (k : Nat) : RSt n (rIn n st k) := by
  induction k with
  | zero => exact h
  | succ k ih => exact ih.step
theorem RSt.out (j : Nat) : RSt (5 + j) (rOut j) := by
  induction j with
  | zero => exact ⟨by decide, by decide, List.length_replicate⟩
  | succ j ih =>
    have h := ih.in_ 257
    exact ⟨h.c, by have := h.had; show (rIn (5 + j) (rOut j) 257).2.1 ≤ _; omega, h.len⟩
theorem i133 : (Try.prog.info? 183).map (fun i => (i.zero, i.size, i.bytes)) = some (some (.agg #[.int .u32 0, .int .i64 0]), 2, 16) := by kernel_rfl
theorem made_codes : madeCells #[.int .u32 0, .int .i64 0] (257 * 2) = vP .u32 .i64 (List.replicate 257 (0, 0)) := by kernel_rfl
structure RCod (w : World) (g g2 : Nat) (out : List (Nat × Nat)) (wr : World) : Prop where
  frm : Frm (New w) w wr
  le : w.heap.size ≤ g ∧ g < g2
  l : Blk wr g 3 (vN .i64 lens)
  o : Blk wr g2 183 (vP .u32 .i64 out)
theorem RCod.next {w wr : World} {g g2 : Nat} {out : List (Nat × Nat)} (h : RCod w g g2 out wr) (s c n : Nat) :
    RCod w g g2 (out.set s (c, n)) ((wr.setCell ⟨g2, s * 2, none⟩ (.int .u32 (c : Int))).setCell ⟨g2, s * 2 + 1, none⟩ (.int .i64 (n : Int))) := by
  obtain ⟨hF, hle, hl, ho⟩ := h
  refine ⟨(hF.setCell (by show w.heap.size ≤ g2; omega) _).setCell (by show w.heap.size ≤ g2; omega) _, hle, (hl.far (by show g ≠ g2; omega) _).far (by show g ≠ g2; omega) _, ?_⟩
  have := (ho.set_ (s * 2) (.int .u32 (c : Int))).set_ (s * 2 + 1) (.int .i64 (n : Int))
  rw [vP_set] at this
  exact this
theorem wrap_u32m (n : Int) : IntKind.u32.wrap n = n % 4294967296 := IntKind.wrap_u32 n
set_option maxRecDepth 100000 in
set_option maxHeartbeats 4000000 in
theorem rcodes_any (w : World) : Calls Try.prog 128 #[] w fun e w' => ∃ g, e = .returned (.slice (some ⟨g, 0, none⟩) 257 257) ∧ w.heap.size ≤ g ∧ Blk w' g 183 (vP .u32 .i64 codes) ∧ Frm (New w) w w' := by
  obtain ⟨i0, hi, hz, hs, hby⟩ := info_parts i133
  go_enter Try.func128, Try.ntmps128
  go_wp2_with (first
    | (go_at_call 142; refine (rlengths_any _).mono ?_; rintro e w1 ⟨g, rfl, hg, hb1, hF1⟩)
    | (refine wpList_make rfl Try.underlying179 hi hz rfl (m := 257) rfl rfl (by rw [hby]; omega) (by unfold maxLen; omega) ?_; intro w2 hb2 hF2 hs2))
  have hb2' : Blk w2 w1.heap.size 183 (vP .u32 .i64 (List.replicate 257 (0, 0))) := by
    rw [hs] at hb2; rw [← made_codes]; exact hb2
  have hgl := hb1.lt
  have H := Lib.hid (show RCod w g w1.heap.size (rOut 0).2.2 w2 from ⟨hF1.then_new Up.new hF2, ⟨hg, hgl⟩, hb1.fresh hF2, hb2'⟩)
  clear hb2 hb2' hb1 hF1 hF2 hs2 hi hz hs hby
  generalize w1.heap.size = g2 at *
  go_loopw [3, 4, 5] (fun c had n wr => ∃ j : Nat, j ≤ 26 ∧ n = .int .i64 ((j : Int) + 5) ∧ c = .int .u32 ((rOut j).1 : Nat) ∧ had = .int .i64 ((rOut j).2.1 : Nat) ∧ Hid (RCod w g g2 (rOut j).2.2 wr)) (fun _ _ n _ => 31 - (intOf n).toNat)
  case atStart => exact ⟨0, by omega, rfl, rfl, rfl, H⟩
  case round =>
    obtain ⟨j, hj, rfl, rfl, rfl, hR⟩ := hrel
    clear H
    have hst := RSt.out j
    by_cases hlt : j < 26
    · generalize hro : rOut j = st at *
      have HRO := Lib.hid hro
      clear hro
      have hn : 5 + j ≤ 30 := by omega
      go_wp2
      have HST := Lib.hid hst
      clear hst
      go_loopw [3, 4, 6] (fun c had s wr => ∃ k : Nat, k ≤ 257 ∧ s = .int .i64 k ∧ c = .int .u32 ((rIn (5 + j) st k).1 : Nat) ∧ had = .int .i64 ((rIn (5 + j) st k).2.1 : Nat) ∧ Hid (RCod w g g2 (rIn (5 + j) st k).2.2 wr)) (fun _ _ s _ => 257 - (intOf s).toNat)
      case atStart => exact ⟨0, by omega, rfl, rfl, rfl, hR⟩
      case round =>
        obtain ⟨k, hk, rfl, rfl, rfl, hR2⟩ := hrel
        clear hR
        have hst := HST.out.in_ k
        by_cases hk2 : k < 257
        · have hC := hR2.out
          have hl := hC.l.cell k
          rw [vN_get (by rw [lens_length]; exact hk2)] at hl
          have hx := lens_le k
          obtain ⟨hc, hhad, hlen⟩ := hst
          by_cases hx2 : lens.getD k 0 = 5 + j
          · have hx3 : (((lens.getD k 0 : Nat) : Int) != (j : Int) + 5) = false := by rw [bne_eq_false_iff_eq]; omega
            have hc2 := (vP_get (k1 := .u32) (k2 := .i64) (rIn (5 + j) st k).2.2 k (by omega)).1
            have hc3 := (vP_get (k1 := .u32) (k2 := .i64) (rIn (5 + j) st k).2.2 k (by omega)).2
            rw [← hC.o.cell] at hc2 hc3
            have hf2 := hC.o.frozen (k * 2)
            have hf3 := hC.o.frozen (k * 2 + 1)
            by_cases hh : 0 < (rIn (5 + j) st k).2.1
            · have HS : Hid (rIn (5 + j) st (k + 1) = (((rIn (5 + j) st k).1 + 1) % 4294967296 * 2 ^ (5 + j - (rIn (5 + j) st k).2.1) % 4294967296, 5 + j, (rIn (5 + j) st k).2.2.set k (((rIn (5 + j) st k).1 + 1) % 4294967296 * 2 ^ (5 + j - (rIn (5 + j) st k).2.1) % 4294967296, 5 + j))) := by
                show rStep _ _ _ = _
                rw [rStep, if_pos hx2]; simp only [if_pos hh]
              have HN := hC.next k (((rIn (5 + j) st k).1 + 1) % 4294967296 * 2 ^ (5 + j - (rIn (5 + j) st k).2.1) % 4294967296) (5 + j)
              rw [show ((5 + j : Nat) : Int) = (j : Int) + 5 from by omega] at HN
              have hw1 : IntKind.u32.wrap (((rIn (5 + j) st k).1 : Int) + 1) = ((((rIn (5 + j) st k).1 + 1) % 4294967296 : Nat) : Int) := by rw [wrap_u32m]; omega
              have hw2 : (((((rIn (5 + j) st k).1 + 1) % 4294967296 : Nat) : Int) * 2 ^ (j + 5 - (rIn (5 + j) st k).2.1)) % 4294967296 = ((((rIn (5 + j) st k).1 + 1) % 4294967296 * 2 ^ (5 + j - (rIn (5 + j) st k).2.1) % 4294967296 : Nat) : Int) := by
                rw [show j + 5 = 5 + j from by omega]
                simp only [Int.natCast_emod, Int.natCast_mul, Int.natCast_pow]; rfl
              have HNN := Lib.hid HN
              clear HN hC hx2 hR2
              generalize ((rIn (5 + j) st k).1 + 1) % 4294967296 * 2 ^ (5 + j - (rIn (5 + j) st k).2.1) % 4294967296 = c2 at *
              generalize ((rIn (5 + j) st k).1 + 1) % 4294967296 = c1 at *
              generalize lens.getD k 0 = x at *
              generalize (rIn (5 + j) st k).1 = c0 at *
              generalize (rIn (5 + j) st k).2.1 = h0 at *
              generalize (rIn (5 + j) st k).2.2.getD k (0, 0) = z at *
              go_wp2
              go_roundw
              case rel => exact ⟨k + 1, by omega, by go_num, by rw [HS.out]; exact congrArg (Value.int .u32) hw2, by rw [HS.out]; go_num, by rw [HS.out]; exact HNN⟩
              case measure => simp [intOf]; omega
            · have HS : Hid (rIn (5 + j) st (k + 1) = ((rIn (5 + j) st k).1, 5 + j, (rIn (5 + j) st k).2.2.set k ((rIn (5 + j) st k).1, 5 + j))) := by
                show rStep _ _ _ = _
                rw [rStep, if_pos hx2]; simp only [if_neg hh]
              have HN := hC.next k (rIn (5 + j) st k).1 (5 + j)
              rw [show ((5 + j : Nat) : Int) = (j : Int) + 5 from by omega] at HN
              have HNN := Lib.hid HN
              clear HN hC hx2 hR2
              generalize lens.getD k 0 = x at *
              generalize (rIn (5 + j) st k).1 = c0 at *
              generalize (rIn (5 + j) st k).2.1 = h0 at *
              generalize (rIn (5 + j) st k).2.2.getD k (0, 0) = z at *
              go_wp2
              go_roundw
              case rel => exact ⟨k + 1, by omega, by go_num, by rw [HS.out], by rw [HS.out]; go_num, by rw [HS.out]; exact HNN⟩
              case measure => simp [intOf]; omega
          · have hx3 : (((lens.getD k 0 : Nat) : Int) != (j : Int) + 5) = true := by rw [bne_iff_ne]; omega
            have HS : Hid (rIn (5 + j) st (k + 1) = rIn (5 + j) st k) := by show rStep _ _ _ = _; rw [rStep, if_neg hx2]
            have HX := Lib.hid hx2
            clear hx2 hC
            generalize lens.getD k 0 = x at *
            go_wp2
            go_roundw
            case rel => exact ⟨k + 1, by omega, by go_num, by rw [HS.out], by rw [HS.out], by rw [HS.out]; exact hR2⟩
            case measure => simp [intOf]; omega
        · obtain rfl : k = 257 := by omega
          have HS : Hid (rOut (j + 1) = rIn (5 + j) st 257) := by show rIn (5 + j) (rOut j) 257 = _; rw [HRO.out]
          clear hst hk hk2
          generalize rIn (5 + j) st 257 = st2 at *
          go_wp2
          go_roundw
          case rel => exact ⟨j + 1, by omega, by go_num, by rw [HS.out], by rw [HS.out], by rw [HS.out]; exact hR2⟩
          case measure => simp [intOf]; omega
    · obtain rfl : j = 26 := by omega
      have hC := hR.out
      rw [rOut_codes] at hC
      clear hR hst
      generalize rOut 26 = st at *
      go_wp2
      go_ret
      exact ⟨g2, rfl, by have := hC.le; omega, hC.o, hC.frm⟩
end Go.Proofs.Ytdgggjeiflllhaa.M

