/- string(b), b a slice of bytes. No condition. Arguments that are slices of bytes. No condition. The reference's Prefix, PutStr onto a full slice whose block is not to be written. Sizes as there. -/
import Derived.Test.YtdgggjeiflllhaaKey
import Derived.Laws.IdiomStrings
import Derived.ChangeSlices
import Derived.Test.YtdgggjeiflllhaaRnum
namespace Go.Proofs.Ytdgggjeiflllhaa.M
open Go.ChangeShapes Go.WideShapes Go.ChangeAt Go.RowKit

theorem run_conv {w : World} {A : Option Addr} {l : Bytes} {c : Nat} (h : Rd w A (bvs l)) : (convert 23 9 (.slice A l.length c)).run Try.prog w = .ok (str l) w := by
  cases A with
  | none =>
    have hl : l = [] := by
      cases l with
      | nil => rfl
      | cons x r => obtain ⟨g, off, e, _⟩ := h 0 _ rfl; cases e
    subst hl
    have h1 := run_convert_bytes_string (P := Try.prog) w 23 9 5 none 0 c Try.underlying23 Try.underlying5 Try.underlying9
    rw [show ([] : Bytes).length = 0 from rfl, h1]
    simp [Conv.bytesToString]
    rfl
  | some a =>
    refine run_convert_bytes_back w _ _ _ a c l Try.underlying23 Try.underlying5 Try.underlying9 (fun j hj => ?_)
    exact rd_addr h j _ (by simp [bvs, bv, List.getElem?_eq_getElem hj])

section
variable {ops : Array Oper} {rest : List Oper} {o : Oper} {a : Act} {Q : Exit → Act → World → Prop} {w : World}
/-- string(b) -/
theorem wpList_conv (hgd : o.guard = none) {x : Operand} (ho : o.op = .convert 23 9 x) {A : Option Addr} {l : Bytes} {c : Nat} (hx : a.eval x = .slice A l.length c) (hR : Rd w A (bvs l))
    (h : wpList Try.prog ops Q rest (a.put o.dst (str l)) w) : wpList Try.prog ops Q (o :: rest) a w := by
  refine wpList_val hgd (str l) ?_ h
  unfold execOp
  rw [ho]
  simp only [hx, Sem.run_bind, run_conv hR, Result.andThen_ok, Sem.run_pure]
end
end Go.Proofs.Ytdgggjeiflllhaa.M
namespace Go.Proofs.Ytdgggjeiflllhaa.M
open Go.ChangeShapes Go.WideShapes Go.ChangeAt Go.RowKit

/-- an argument: a slice of the bytes l -/
structure BIn (W : World) (A : Option Addr) (n c : Nat) (l : Bytes) : Prop where
  len : n = l.length
  rd : Rd W A (bvs l)
  low : ∀ k, blk A = some k → k < W.heap.size
  nil_ : A = none → n = 0
  cap : n ≤ c
  max : c ≤ maxLen

set_option maxRecDepth 100000 in
theorem is_bytes {W : World} {H : Type} {x : DataW H × List MemPlace} {base base2 : Nat} {r : Reach} {spare : Nat → Bool} {A : Option Addr} {len cap : Nat} (hv : Value.okWide Try.prog W r base2 23 (.slice A len cap))
    (h : ([Value.slice A len cap] = [.slice none 0 0] ∧ x = (.nil, [])) ∨
      ∃ (a : Addr) (len' cap' : Nat) (zs : List Int), [Value.slice A len cap] = [.slice (some a) len' cap'] ∧ base ≤ a.block ∧ len' ≤ cap' ∧ cap' ≤ maxLen ∧ zs.length = (if spare a.block then cap' else len') ∧
        x = (.slice (lits .u8 (zs.take len')) (lits .u8 (zs.drop len')), MemPlace.row a zs.length) ∧
        (∀ i, i < zs.length → W.cell? (a.add i) = some (.int .u8 (zs.getD i 0))) ∧ (∀ n ∈ zs, (Lit.int .u8 n).wf = true)) : ∃ l : Bytes, BIn W A len cap l := by
  rcases h with ⟨h, _⟩ | ⟨a, len', cap', zs, h, _, hc, hm, hz, _, hcell, hwf⟩
  · simp only [List.cons.injEq, Value.slice.injEq, and_true] at h
    obtain ⟨rfl, rfl, rfl⟩ := h
    exact ⟨[], rfl, Rd.nil, fun k hk => (by cases hk), fun _ => rfl, Nat.le_refl _, Nat.zero_le _⟩
  · simp only [List.cons.injEq, Value.slice.injEq, and_true] at h
    obtain ⟨rfl, rfl, rfl⟩ := h
    simp only [Value.okWide, Try.underlying23, Cell.okWide, Cell.ok] at hv
    obtain ⟨_, _, _, hsp, row, cells, hsh, _⟩ := hv
    have hlow : a.block < W.heap.size := by
      unfold World.shape? at hsh
      cases hb : W.heap[a.block]? with
      | none => rw [hb] at hsh; cases hsh
      | some o => exact (Array.getElem?_eq_some_iff.1 hb).1
    have hlz : len ≤ zs.length := by rw [hz]; split <;> omega
    refine ⟨(zs.take len).map (fun z => UInt8.ofNat z.toNat), by simp; omega, ?_, fun k hk => (by cases hk; exact hlow), fun e => by (cases e), hc, hm⟩
    intro j u hu
    have hj : j < len := by
      have := (List.getElem?_eq_some_iff.1 hu).1
      simp [bvs] at this
      omega
    have hzj : zs.getD j 0 ∈ zs := by
      rw [List.getD_eq_getElem?_getD, List.getElem?_eq_getElem (by omega)]
      exact List.getElem_mem _
    have hw := hwf _ hzj
    have hb : 0 ≤ zs.getD j 0 ∧ zs.getD j 0 ≤ 255 := by
      generalize zs.getD j 0 = z at hw
      simp only [Lit.wf, decide_eq_true_eq, Bool.and_eq_true] at hw
      exact hw
    have hc1 := hcell j (by omega)
    obtain ⟨g, off, spot⟩ := a
    simp only at hsp
    subst hsp
    refine ⟨g, off, rfl, ?_⟩
    rw [Addr.add_lit] at hc1
    rw [hc1]
    have e : (bvs ((zs.take len).map (fun z => UInt8.ofNat z.toNat)))[j]? = some (bv (UInt8.ofNat (zs.getD j 0).toNat)) := by
      simp [bvs, hj, List.getElem?_eq_getElem (show j < zs.length by omega)]
    rw [e] at hu
    injection hu with hu
    have hv := bv_of (zs.getD j 0) hb.1 hb.2
    rw [← hu, ← hv]
end Go.Proofs.Ytdgggjeiflllhaa.M
namespace Go.Proofs.Ytdgggjeiflllhaa.M
open Go.ChangeShapes Go.WideShapes Go.ChangeAt Go.RowKit

/-- a slice that may be appended to: it has no room, or its block is in M -/
def Src (M : Nat → Prop) (w : World) (e size : Nat) (A : Option Addr) (n c : Nat) (xs : List Value) : Prop := App (fun k => M k ∨ (n = c ∧ blk A = some k)) w e size A n c xs
theorem App.src {M : Nat → Prop} {w : World} {e size n c : Nat} {A : Option Addr} {xs : List Value} (h : App M w e size A n c xs) : Src M w e size A n c xs := h.mono (fun _ hk => .inl hk)
theorem Src.fresh {M : Nat → Prop} {w w' : World} {e size n c : Nat} {A : Option Addr} {xs : List Value} (h : Src M w e size A n c xs) (f : Frm (New w) w w') : Src M w' e size A n c xs := App.fresh h f
theorem App.in_ {M M' : Nat → Prop} {w : World} {e size n c : Nat} {A : Option Addr} {xs : List Value} (h : App M w e size A n c xs) (hM : ∀ k, blk A = some k → M' k) : App M' w e size A n c xs :=
  { h with
    inM := hM
    own := fun hn => by
      obtain ⟨g, off, cur, a, b, d, _⟩ := h.own hn
      exact ⟨g, off, cur, a, b, d, hM g (by rw [a]; rfl)⟩ }

section
variable {P : Program} {M : Nat → Prop} {t e : TypeId} {size bytes : Nat}
variable {ops : Array Oper} {rest : List Oper} {o : Oper} {a : Act} {Q : Exit → Act → World → Prop} {w : World}
theorem wpList_append_lit_src (E : Elem P t e size bytes) (hgd : o.guard = none) {s x : Operand} (ho : o.op = .call { callee := .builtin .append, args := #[s, x], argTypes := #[t, t] })
    {A : Option Addr} {n c : Nat} {xs : List Value} (hs : a.eval s = .slice A n c) (hA : Src M w e size A n c xs) (hu : Up M w)
    {cs : Array Value} {e' : TypeId} {m d : Nat} (hx : a.eval x = .slice (some ⟨w.heap.size, 0, none⟩) m d) (hl : cs.size = m * size) (h1 : ∀ u ∈ cs.toList, u.oneCell' = true) (hbytes : (n + m) * bytes ≤ 140737488355328) (hm : 0 < m)
    (h : ∀ A' c' w', App M w' e size A' (n + m) c' (xs ++ cs.toList) → Frm M w w' → wpList P ops Q rest (a.put o.dst (.slice A' (n + m) c')) w') :
    wpList P ops Q (o :: rest) a (w.alloc (.cells cs e')) := by
  refine wpList_append_lit E hgd ho hs hA (fun k hk => .inl (hu k hk)) hx hl h1 hbytes fun A' c' w' h2 _ h4 h5 => h A' c' w' (h2.in_ fun k hk => ?_) (h5.mono fun k hk => ?_)
  · rcases h4 with ⟨e1, e2⟩ | ⟨e1, _⟩
    · rcases hA.inM k (by rw [← e1]; exact hk) with hM | ⟨hnc, _⟩
      · exact hM
      · have := h2.cap; omega
    · rw [e1] at hk
      cases hk
      exact hu _ (by omega)
  · rcases hk with hk | ⟨hnc, hk⟩
    · exact hu k hk
    · rcases hA.inM k hk with hM | ⟨e1, _⟩
      · exact hM
      · omega
end

set_option maxRecDepth 100000 in
set_option maxHeartbeats 1000000 in
theorem rprefix_small_s (M : Nat → Prop) (l : List UInt8) (A : Option Addr) (c : Nat) (f k v : Nat) (w : World) (hu : Up M w) (hA : Src M w 5 1 A l.length c (bvs l)) (hl : l.length ≤ 70368744177664)
    (f1 : f ≤ 255) (k0 : 1 ≤ k) (k1 : k ≤ 8) (hv : v < 2 ^ k - 1) :
    Calls Try.prog 35 #[.slice A l.length c, .int .u8 f, .int .i64 k, .int .u64 v] w fun e w' => ∃ A' c', e = .returned (.slice A' (l.length + 1) c') ∧
      App M w' 5 1 A' (l.length + 1) c' (bvs l ++ [.int .u8 ((f / 2 ^ k * 2 ^ k : Nat) + v : Int)]) ∧ Frm M w w' := by
  obtain ⟨p2, p256⟩ := pow_bd k k0 k1
  have hAN := and_not f (2 ^ k) k rfl (by omega) k1
  have hO1 := or_low f v k (by omega) (by omega) k1
  have hh := head_le f k v f1 k1 (by omega)
  have hpw : (2 : Int) ^ k = ((2 ^ k : Nat) : Int) := by simp
  generalize 2 ^ k = p at *
  generalize f / p * p = h0 at *
  have hAN' : bits .andNot .u8 (f : Int) ((p : Int) - 1) = (h0 : Int) := by rw [← hAN]; congr 1; omega
  clear hAN
  have hkb : (1 : Int) ≤ k := by omega
  have hkb2 : (k : Int) ≤ 8 := by omega
  have hv' : (v : Int) < (p : Int) - 1 := by omega
  go_enter Try.func35, Try.ntmps35
  go_wp2_with (at_builtin; refine wpList_append_lit_src u8s rfl rfl rfl hA hu rfl rfl (one_cell _ rfl) (by omega) (by omega) ?_; intro A2 c2 w2 hA2 hF2; clear hA)
  go_ret
  exact ⟨A2, c2, rfl, hA2, hF2⟩

set_option maxRecDepth 100000 in
set_option maxHeartbeats 1000000 in
theorem rprefix_great_s (M : Nat → Prop) (l : List UInt8) (A : Option Addr) (c : Nat) (f k v : Nat) (w : World) (hu : Up M w) (hA : Src M w 5 1 A l.length c (bvs l)) (hl : l.length ≤ 70368744177664)
    (f1 : f ≤ 255) (k0 : 1 ≤ k) (k1 : k ≤ 8) (hv : 2 ^ k - 1 ≤ v) (v1 : v < 18446744073709551616) :
    Calls Try.prog 35 #[.slice A l.length c, .int .u8 f, .int .i64 k, .int .u64 v] w fun e w' => ∃ A' c', e = .returned (.slice A' (l.length + 1 + (more 10 (v - (2 ^ k - 1))).length) c') ∧
      App M w' 5 1 A' (l.length + 1 + (more 10 (v - (2 ^ k - 1))).length) c' (bvs l ++ [.int .u8 ((f / 2 ^ k * 2 ^ k : Nat) + ((2 ^ k : Nat) - 1) : Int)] ++ bvs (more 10 (v - (2 ^ k - 1)))) ∧ Frm M w w' := by
  obtain ⟨p2, p256⟩ := pow_bd k k0 k1
  have hAN := and_not f (2 ^ k) k rfl (by omega) k1
  have hO1 := or_low f (2 ^ k - 1) k (by omega) (by omega) k1
  have hh := head_le f k (2 ^ k - 1) f1 k1 (by omega)
  have hpw : (2 : Int) ^ k = ((2 ^ k : Nat) : Int) := by simp
  generalize 2 ^ k = p at *
  generalize f / p * p = h0 at *
  have hAN' : bits .andNot .u8 (f : Int) ((p : Int) - 1) = (h0 : Int) := by rw [← hAN]; congr 1; omega
  have hO2 : bits .or .u8 (h0 : Int) ((p : Int) - 1) = (h0 : Int) + ((p : Int) - 1) := by
    rw [show ((p : Int) - 1) = ((p - 1 : Nat) : Int) from by omega, hO1]; omega
  clear hAN hO1
  have hkb : (1 : Int) ≤ k := by omega
  have hkb2 : (k : Int) ≤ 8 := by omega
  have hnv : ¬ ((v : Int) < (p : Int) - 1) := by omega
  go_enter Try.func35, Try.ntmps35
  go_wp2_with (at_builtin; refine wpList_append_lit_src u8s rfl rfl rfl hA hu rfl rfl (one_cell _ rfl) (by omega) (by omega) ?_; intro A2 c2 w2 hA2 hF2; clear hA)
  have HF := Lib.hid hF2
  clear hF2 hAN' hO2 hpw
  generalize hx0 : v - (p - 1) = x0
  have hx0' : ((v : Int) - ((p : Int) - 1)) = (x0 : Int) := by omega
  simp only [hx0']
  have hfu : x0 < 128 ^ 11 := by have : (128 : Nat) ^ 11 = 151115727451828646838272 := by decide
                                 omega
  have hxx : x0 < 18446744073709551616 := by omega
  have HX0 : Hid (v - (p - 1) = x0) := hx0
  clear hx0' hx0 hnv
  clear hv hh hkb hkb2 p2 p256 k0 k1 f1
  go_loopw [0, 3] (fun o x wr => RpLoop M w l (.int .u8 ((h0 : Int) + ((p : Int) - 1))) x0 x o wr) (fun _ x _ => (intOf x).toNat)
  case atStart => exact ⟨x0, A2, c2, [], 10, rfl, by simp, hxx, by simpa using hfu, by simpa using hA2, HF.out, by simp⟩
  case round =>
    obtain ⟨x, A3, c3, done, fu, rfl, rfl, hx1, hx2, hA3, hF3, hmore⟩ := hrel
    clear hA2 HF
    by_cases hlt : 128 ≤ x
    · obtain ⟨fu, rfl⟩ : ∃ g, fu = g + 1 := by
        cases fu with
        | zero => simp at hx2; omega
        | succ g => exact ⟨g, rfl⟩
      have hm : more (fu + 1) x = UInt8.ofNat (x % 128 + 128) :: more fu (x / 128) := by rw [more, if_neg (by omega)]
      have hdl : done.length ≤ 11 := by
        have h1 := more_length 10 x0
        rw [hmore] at h1; simp at h1; omega
      have hand := and_127u x hx1
      have hy : x % 128 < 128 := by omega
      have hor := or_128b (x % 128) hy
      have hbv := bv_of ((x % 128 + 128 : Nat) : Int) (by omega) (by omega)
      have HM : Hid (more 10 x0 = (done ++ [UInt8.ofNat (x % 128 + 128)]) ++ more fu (x / 128)) := by
        show _ = _
        rw [hmore, hm]; simp
      have HB : Hid (Value.int .u8 ((x % 128 + 128 : Nat) : Int) = bv (UInt8.ofNat (x % 128 + 128))) := by
        show _ = _
        rw [hbv, Int.toNat_natCast]
      have HX : Hid (x < 128 ^ (fu + 1 + 1)) := hx2
      clear hm hmore hbv hx2
      generalize hyy : x % 128 = y at *
      have HY := Lib.hid hyy
      clear hyy
      go_wp2_with (at_builtin; refine wpList_append_lit u8s rfl rfl rfl hA3 (hu.of hF3.size) rfl rfl (one_cell _ rfl) (by omega) ?_; intro A4 c4 w4 hA4 hF4 _ _; clear hA3)
      go_roundw
      case rel =>
        refine ⟨x / 128, A4, c4, done ++ [UInt8.ofNat (y + 128)], fu, by go_num, by simp [Nat.add_assoc], by omega, ?_, ?_, hF3.trans hF4, HM.out⟩
        · have hx2 := HX.out
          exact Nat.div_lt_of_lt_mul (by rw [Nat.pow_succ, Nat.mul_comm] at hx2; exact hx2)
        · rw [bvs_append, ← List.append_assoc, List.length_append, ← Nat.add_assoc]
          have : bvs [UInt8.ofNat (y + 128)] = [Value.int .u8 ((y + 128 : Nat) : Int)] := by rw [HB.out]; rfl
          rw [this]
          simpa using hA4
      case measure => simp [intOf]; omega
    · have hm : more fu x = [UInt8.ofNat x] := by
        cases fu with
        | zero => rfl
        | succ g => rw [more, if_pos (by omega)]
      have hdl : done.length ≤ 11 := by
        have h1 := more_length 10 x0
        rw [hmore] at h1; simp at h1; omega
      have HM : Hid (more 10 x0 = (done ++ [UInt8.ofNat x])) := by
        show _ = _
        rw [hmore, hm]
      have HB : Hid (Value.int .u8 (x : Int) = bv (UInt8.ofNat x)) := by
        show _ = _
        rw [bv_of (x : Int) (by omega) (by omega), Int.toNat_natCast]
      clear hm hmore hx2
      go_wp2_with (at_builtin; refine wpList_append_lit u8s rfl rfl rfl hA3 (hu.of hF3.size) rfl rfl (one_cell _ rfl) (by omega) ?_; intro A4 c4 w4 hA4 hF4 _ _; clear hA3)
      go_ret
      rw [HX0.out, HM.out]
      refine ⟨A4, c4, ?_, ?_, hF3.trans hF4⟩
      · show Ending.returned (.slice A4 (l.length + 1 + done.length + 1) c4) = _
        simp [Nat.add_assoc]
      · rw [bvs_append, List.length_append, ← Nat.add_assoc]
        have : bvs [UInt8.ofNat x] = [Value.int .u8 (x : Int)] := by rw [HB.out]; rfl
        rw [this]
        simpa using hA4

theorem rprefix_any_s (M : Nat → Prop) (l : List UInt8) (A : Option Addr) (c : Nat) (f k v : Int) (w : World) (hu : Up M w) (hA : Src M w 5 1 A l.length c (bvs l)) (hl : l.length ≤ 70368744177664)
    (f0 : 0 ≤ f) (f1 : f ≤ 255) (k0 : 1 ≤ k) (k1 : k ≤ 8) (v0 : 0 ≤ v) (v1 : v ≤ 18446744073709551615) :
    Calls Try.prog 35 #[.slice A l.length c, .int .u8 f, .int .i64 k, .int .u64 v] w (RetA M w (l ++ pfx f.toNat k.toNat v.toNat)) := by
  obtain ⟨f, rfl⟩ := Int.eq_ofNat_of_zero_le f0
  obtain ⟨k, rfl⟩ := Int.eq_ofNat_of_zero_le (a := k) (by omega)
  obtain ⟨v, rfl⟩ := Int.eq_ofNat_of_zero_le v0
  simp only [Int.toNat_natCast]
  have hp := pow_bd k (by omega) (by omega)
  by_cases hv : v < 2 ^ k - 1
  · have hh := head_le f k v (by omega) (by omega) (by omega)
    refine (rprefix_small_s M l A c f k v w hu hA hl (by omega) (by omega) (by omega) hv).mono ?_
    rintro e w' ⟨A', c', rfl, hA, hF⟩
    have e1 : pfx f k v = [UInt8.ofNat (f / 2 ^ k * 2 ^ k + v)] := by rw [pfx, if_pos hv]
    have e2 := bv_of ((f / 2 ^ k * 2 ^ k : Nat) + v : Int) (by omega) (by omega)
    rw [show ((f / 2 ^ k * 2 ^ k : Nat) + v : Int) = ((f / 2 ^ k * 2 ^ k + v : Nat) : Int) from by omega, Int.toNat_natCast] at e2
    refine ⟨A', c', by rw [e1]; simp, ?_, hF⟩
    rw [e1, bvs_append, List.length_append]
    have : bvs [UInt8.ofNat (f / 2 ^ k * 2 ^ k + v)] = [Value.int .u8 ((f / 2 ^ k * 2 ^ k : Nat) + v : Int)] := by
      rw [show ((f / 2 ^ k * 2 ^ k : Nat) + v : Int) = ((f / 2 ^ k * 2 ^ k + v : Nat) : Int) from by omega, e2]; rfl
    rw [this]
    exact hA
  · have hh := head_le f k (2 ^ k - 1) (by omega) (by omega) (by omega)
    refine (rprefix_great_s M l A c f k v w hu hA hl (by omega) (by omega) (by omega) (by omega) (by omega)).mono ?_
    rintro e w' ⟨A', c', rfl, hA, hF⟩
    have e1 : pfx f k v = [UInt8.ofNat (f / 2 ^ k * 2 ^ k + (2 ^ k - 1))] ++ more 10 (v - (2 ^ k - 1)) := by rw [pfx, if_neg hv]; rfl
    have e2 := bv_of ((f / 2 ^ k * 2 ^ k + (2 ^ k - 1) : Nat) : Int) (by omega) (by omega)
    rw [Int.toNat_natCast] at e2
    have e3 : bvs [UInt8.ofNat (f / 2 ^ k * 2 ^ k + (2 ^ k - 1))] = [Value.int .u8 ((f / 2 ^ k * 2 ^ k : Nat) + ((2 ^ k : Nat) - 1) : Int)] := by
      rw [show ((f / 2 ^ k * 2 ^ k : Nat) + ((2 ^ k : Nat) - 1) : Int) = ((f / 2 ^ k * 2 ^ k + (2 ^ k - 1) : Nat) : Int) from by omega, e2]; rfl
    have e4 : (l ++ pfx f k v).length = l.length + 1 + (more 10 (v - (2 ^ k - 1))).length := by rw [e1]; simp; omega
    refine ⟨A', c', by rw [e4], ?_, hF⟩
    rw [e4, e1, bvs_append, bvs_append, e3, ← List.append_assoc]
    exact hA
theorem rprefix_nat_s (M : Nat → Prop) (l : List UInt8) (A : Option Addr) (c : Nat) (f k v : Nat) (w : World) (hu : Up M w) (hA : Src M w 5 1 A l.length c (bvs l)) (hl : l.length ≤ 70368744177664)
    (f1 : f ≤ 255) (k0 : 1 ≤ k) (k1 : k ≤ 8) (v1 : v ≤ 18446744073709551615) :
    Calls Try.prog 35 #[.slice A l.length c, .int .u8 f, .int .i64 k, .int .u64 v] w (RetA M w (l ++ pfx f k v)) :=
  rprefix_any_s M l A c f k v w hu hA hl (by omega) (by omega) (by omega) (by omega) (by omega) (by omega)

set_option maxRecDepth 100000 in
set_option maxHeartbeats 1000000 in
theorem putstr_src (M : Nat → Prop) (l : List UInt8) (A : Option Addr) (c : Nat) (f k : Nat) (s : ByteArray) (w : World) (hu : Up M w) (hA : Src M w 5 1 A l.length c (bvs l)) (hl : l.length ≤ 1099511627000) (hs : s.size ≤ 1099511627776)
    (f1 : f ≤ 255) (k0 : 1 ≤ k) (k1 : k ≤ 7) :
    Calls Try.prog 59 #[.slice A l.length c, .int .u8 f, .int .i64 k, .string s] w (RetA M w (l ++ strc (f ||| 2 ^ k) f k s.data.toList)) := by
  have ho := or_bit f k f1 k1
  obtain ⟨b1, b0⟩ := bit_le f k f1 k1
  generalize f ||| 2 ^ k = g1 at *
  have hle := hlen_le s.data.toList
  rw [size_len] at hle
  have hpl1 := pfx_length g1 k (hlen s.data.toList)
  have hpl0 := pfx_length f k s.size
  have HS : Hid (strc g1 f k s.data.toList = if hlen s.data.toList < s.size then pfx g1 k (hlen s.data.toList) ++ hcode s.data.toList else pfx f k s.size ++ s.data.toList) := by
    show _ = _; unfold strc; rw [size_len]
  generalize hx : hlen s.data.toList = x at *
  have HX := Lib.hid hx
  clear hx
  have hlen' : ∀ w, Calls Try.prog 96 #[.string s] w fun e w' => e = .returned (.int .i64 (x : Int)) ∧ Frm (New w) w w' := fun w => by rw [← HX.out]; exact rhufflen_any s w (by omega)
  by_cases hlt : x < s.size
  · have HS2 : Hid (l ++ strc g1 f k s.data.toList = (l ++ pfx g1 k x) ++ hcode s.data.toList) := by
      show _ = _; rw [HS.out, if_pos hlt, List.append_assoc]
    go_enter Try.func59, Try.ntmps59
    go_wp2_with (first | (go_at_call 96; refine (hlen' _).mono ?_; rintro e w1 ⟨rfl, hF1⟩) | fail)
    refine (rprefix_nat_s M l A c g1 k x _ (hu.of hF1.size) (hA.fresh hF1) (by omega) b1 k0 (by omega) (by omega)).mono ?_
    rintro e w2 ⟨A2, c2, rfl, hA2, hF2⟩
    have hFF : Frm M w w2 := (hF1.up hu).trans hF2
    have hln : (l ++ pfx g1 k x).length ≤ 1099511627020 := by rw [List.length_append]; omega
    generalize l ++ pfx g1 k x = l2 at *
    clear hA hF1 hF2
    go_wp2_with fail
    refine (huffman_any M l2 A2 c2 s _ (hu.of hFF.size) hA2 (by omega) hs).mono ?_
    rintro e w3 ⟨A3, c3, rfl, hA3, hF3⟩
    go_wp2_with fail
    go_ret
    rw [HS2.out]
    exact ⟨A3, c3, by simp, hA3, hFF.trans hF3⟩
  · have HS2 : Hid (l ++ strc g1 f k s.data.toList = (l ++ pfx f k s.size) ++ s.data.toList) := by
      show _ = _; rw [HS.out, if_neg hlt, List.append_assoc]
    go_enter Try.func59, Try.ntmps59
    go_wp2_with (first | (go_at_call 96; refine (hlen' _).mono ?_; rintro e w1 ⟨rfl, hF1⟩) | fail)
    refine (rprefix_nat_s M l A c f k s.size _ (hu.of hF1.size) (hA.fresh hF1) (by omega) f1 k0 (by omega) (by omega)).mono ?_
    rintro e w2 ⟨A2, c2, rfl, hA2, hF2⟩
    have hFF : Frm M w w2 := (hF1.up hu).trans hF2
    have hln : (l ++ pfx f k s.size).length ≤ 1099511627020 := by rw [List.length_append]; omega
    generalize l ++ pfx f k s.size = l2 at *
    clear hA hF1 hF2
    go_wp2_with (at_builtin; refine wpList_append_string u8s rfl strs_under rfl rfl hA2 (hu.of hFF.size) rfl (by omega) ?_; intro A3 c3 w3 hA3 hF3 _ _; clear hA2)
    go_ret
    rw [HS2.out]
    refine ⟨A3, c3, ?_, ?_, hFF.trans hF3⟩
    · show Ending.returned (.slice A3 (l2.length + s.size) c3) = _
      rw [List.length_append, size_len]
    · rw [List.length_append, size_len, bvs_append]; exact hA3
end Go.Proofs.Ytdgggjeiflllhaa.M
