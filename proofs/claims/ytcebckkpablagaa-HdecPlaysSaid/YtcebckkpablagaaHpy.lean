/- bifoldlaw6.HdecPlays: for every input it tells true. No condition. -/
import Derived.Deep.CutBlock
import Derived.BigQuiet
import Derived.OpenShut
import Derived.Test.YtcebckkpablagaaAlk
import Derived.Test.YtcebckkpablagaaKn6
import Derived.Test.YtcebckkpablagaaBy
import Derived.Test.YtcebckkpablagaaPin
import Derived.Test.YtcebckkpablagaaHzs
namespace Go.Proofs.Ytcebckkpablagaa.M
open Go.ChangeShapes Go.WideShapes Go.ChangeAt Go.RowKit

theorem limit_bad (D : De) (n : Int) : (D.limit n).bad = D.bad ∧ (D.limit n).t.n = D.t.n := by
  unfold De.limit
  split
  · exact ⟨rfl, rfl⟩
  · exact ⟨rfl, rfl⟩
theorem Alike.limit {D D2 : De} (h : Alike D D2) (n : Int) : Alike (D.limit n) (D2.limit n) := by
  rcases h with h | ⟨h1, h2⟩
  · rw [h]; exact .inl rfl
  · exact .inr ⟨by rw [(limit_bad D n).1]; exact h1, by rw [(limit_bad D2 n).1]; exact h2⟩
theorem ptB_pos (x : Pt) : 0 < (ptB x).length := by
  unfold ptB
  split
  · exact pfx_pos _ _ _
  · split
    · exact pfx_pos _ _ _
    · unfold litB
      have := pfx_pos (fK (x.k % 8)) (kK (x.k % 8)) x.i
      rw [List.length_append]; omega
theorem byte_xor (a b : Int) : ∃ z : UInt8, bits .xor .u8 a b = (z.toNat : Int) := by
  have h := wf_bits .xor .u8 a b
  have hb : 0 ≤ bits .xor .u8 a b ∧ bits .xor .u8 a b ≤ 255 := by
    generalize bits .xor .u8 a b = q at h
    simp only [Lit.wf, decide_eq_true_eq, Bool.and_eq_true] at h; exact h
  refine ⟨UInt8.ofNat (bits .xor .u8 a b).toNat, ?_⟩
  have : (UInt8.ofNat (bits .xor .u8 a b).toNat).toNat = (bits .xor .u8 a b).toNat := by simp; omega
  rw [this]; omega
/-- a byte of a slice that the call itself made is written -/
theorem App.set {M : Nat → Prop} {w : World} {e n c : Nat} {A : Option Addr} {b : Bytes} (h : App M w e 1 A n c (bvs b)) (j : Nat) (hj : j < b.length) :
    ∃ g off, A = some ⟨g, off, none⟩ ∧ w.cell? ⟨g, off + j, none⟩ = some (.int .u8 (b[j].toNat : Int)) ∧ w.frozen? ⟨g, off + j, none⟩ = false ∧ M g ∧ g < w.heap.size ∧
      ∀ z : UInt8, App M (w.setCell ⟨g, off + j, none⟩ (.int .u8 (z.toNat : Int))) e 1 A n c (bvs (b.set j z)) := by
  have hl := h.len
  rw [bvs_length, Nat.mul_one] at hl
  have hcap := h.cap
  obtain ⟨g, off, cur, rfl, hb, hsz, hM⟩ := h.own (by omega)
  have hB : Blk w g e cur := hb
  obtain ⟨g2, off2, e2, hc⟩ := h.rd j (.int .u8 (b[j].toNat : Int)) (by simp [bvs, bv, hj])
  simp only [Option.some.injEq, Addr.mk.injEq] at e2
  obtain ⟨rfl, rfl, _⟩ := e2
  refine ⟨g, off, rfl, hc, hB.frozen _, hM, hB.lt, fun z => ?_⟩
  have hS := hB.set_ (off + j) (.int .u8 (z.toNat : Int))
  refine ⟨by rw [bvs_length, List.length_set, Nat.mul_one]; exact hl, h.cap, h.max, h.nil_, ?_, h.inM, fun hn => ⟨g, off, _, rfl, hS, by simpa using hsz, hM⟩⟩
  intro i u hu
  refine ⟨g, off, rfl, ?_⟩
  rw [hS.cell]
  by_cases hij : i = j
  · subst hij
    have h1 : (bvs (b.set i z))[i]? = some (.int .u8 (z.toNat : Int)) := by simp [bvs, bv, hj]
    rw [h1] at hu
    injection hu with hu
    subst hu
    have : off + i < cur.size := by omega
    simp [this]
  · have h1 : (bvs (b.set j z))[i]? = (bvs b)[i]? := by
      simp only [bvs, List.getElem?_map]
      rw [List.getElem?_set_ne (fun e => hij e.symm)]
    rw [h1] at hu
    obtain ⟨g3, off3, e3, hc3⟩ := h.rd i u hu
    simp only [Option.some.injEq, Addr.mk.injEq] at e3
    obtain ⟨rfl, rfl, _⟩ := e3
    rw [hB.cell] at hc3
    rw [← hc3]
    rw [Array.getElem?_setIfInBounds_ne (by omega)]
theorem u16_get {w : World} {A : Option Addr} {l : List Nat} (h : Rd w A (u16s_ l)) (k : Nat) (hk : k < l.length) : ∃ g off, A = some ⟨g, off, none⟩ ∧ w.cell? ⟨g, off + k, none⟩ = some (.int .u16 (l[k] : Int)) :=
  h k _ (by simp [u16s_, hk])
theorem byte_get {w : World} {A : Option Addr} {l : Bytes} (h : Rd w A (bvs l)) (k : Nat) (hk : k < l.length) : ∃ g off, A = some ⟨g, off, none⟩ ∧ w.cell? ⟨g, off + k, none⟩ = some (.int .u8 (l[k].toNat : Int)) :=
  h k _ (by simp [bvs, bv, hk])
theorem sl_get {α : Type} {w : World} {A : Option Addr} {l : List (Sl α)} (h : Rd w A (l.flatMap Sl.cells)) (k : Nat) (hk : k < l.length) : ∃ g off, A = some ⟨g, off, none⟩ ∧ w.cell? ⟨g, off + k, none⟩ = some (.slice l[k].A l[k].l.length l[k].c) := by
  have h1 := flatL_get Sl.cells 1 (fun _ => rfl) l k 0 hk (by omega)
  rw [Nat.mul_one, Nat.add_zero] at h1
  exact h k _ h1

set_option maxRecDepth 100000 in
set_option maxHeartbeats 4000000 in
theorem hplays_walk (v : Int) (A1 : Option Addr) (n1 c1 : Nat) (L : List (Sl Pt)) (A2 : Option Addr) (n2 c2 : Nat) (ats : List Nat) (A3 : Option Addr) (n3 c3 : Nat) (xs : Bytes) (A4 : Option Addr) (n4 c4 : Nat) (lms : List Nat) (W : World)
    (hv : (Lit.int .i64 v).wf = true) (h1 : AIn W Sl.cells (fun s => PIn W s.A s.l.length s.c s.l) A1 n1 c1 L) (h2 : UIn W A2 n2 c2 ats) (h3 : BIn W A3 n3 c3 xs) (h4 : UIn W A4 n4 c4 lms) :
    Calls Try.prog 14 #[.int .i64 v, .slice A1 n1 c1, .slice A2 n2 c2, .slice A3 n3 c3, .slice A4 n4 c4] W fun e w' => e = .returned (.bool true) ∧ Below W.heap.size W w' := by
  obtain ⟨hn1, hR1, hcap1, _, hok1⟩ := h1
  obtain ⟨hn2, hR2, hsm2, hcap2⟩ := h2
  obtain ⟨hn3, hR3, _, _, hcap3, _⟩ := h3
  obtain ⟨hn4, hR4, hsm4, hcap4⟩ := h4
  subst hn1 hn2 hn3 hn4
  have hv : -9223372036854775808 ≤ v ∧ v ≤ 9223372036854775807 := by
    simp only [Lit.wf, decide_eq_true_eq, Bool.and_eq_true] at hv; exact hv
  have HR1 := Lib.hid hR1
  have HR2 := Lib.hid hR2
  have HR3 := Lib.hid hR3
  have HR4 := Lib.hid hR4
  have HOK1 := Lib.hid hok1
  have HSM2 := Lib.hid hsm2
  have HSM4 := Lib.hid hsm4
  clear hR1 hR2 hR3 hR4 hok1 hsm2 hsm4
  go_enter Try.func14, Try.ntmps14
  go_wp2_with (fail)
  refine (known6_any _).mono ?_
  rintro e w1 ⟨rfl, hF1⟩
  have HF1 := Lib.hid hF1
  clear hF1
  by_cases q1 : 5 < L.length
  · go_wp2
    go_ret
    exact ⟨rfl, HF1.out.below⟩
  by_cases q2 : ats.length < L.length
  · go_wp2
    go_ret
    exact ⟨rfl, HF1.out.below⟩
  by_cases q3 : xs.length < L.length
  · go_wp2
    go_ret
    exact ⟨rfl, HF1.out.below⟩
  by_cases q4 : lms.length < L.length
  · go_wp2
    go_ret
    exact ⟨rfl, HF1.out.below⟩
  go_wp2_with (fail)
  refine (hdnew_any v (by omega) (by omega) _).mono ?_
  rintro e w2 ⟨S, pd, g, rfl, hE2, hF2, hS2, hp2⟩
  go_wp2_with (fail)
  refine (rdnew_any v (by omega) (by omega) _).mono ?_
  rintro e w3 ⟨S2, p2, g2, rfl, hE3, hF3, hS3, hp3⟩
  have hD3 := DSt.both HF1.out hE2 hF2 hS2 hp2 hE3 hF3 hS3 hp3
  generalize lim v = c0 at *
  have HD3 := Lib.hid hD3
  clear hD3
  clear hE2 hE3 hF2 hF3 hS2 hS3 hp2 hp3 HF1
  go_wp2
  go_loopw [13] (fun i wr => ∃ (k : Nat) (S : Nat → Prop) (D : De) (S2 : Nat → Prop) (D2 : De), k ≤ L.length ∧ i = .int .i64 k ∧ Hid (DSt W wr S pd g D S2 p2 g2 D2) ∧ Hid (Alike D D2) ∧ Hid (D.bad = false → D.t.n ≤ 12000 * k) ∧ Hid (D2.bad = false → D2.t.n ≤ 12000 * k)) (fun i _ => L.length - (intOf i).toNat)
  case atStart => exact ⟨0, S, _, S2, _, by omega, rfl, HD3, .inl rfl, fun _ => Nat.le_refl _, fun _ => Nat.le_refl _⟩
  case round =>
    obtain ⟨k, S', D, S2', D2, hk, rfl, hS, hal, hn, hn2⟩ := hrel
    rename World => wo
    clear HD3
    by_cases hlt : k < L.length
    · obtain ⟨g1, o1, rfl, hx1W⟩ := sl_get HR1.out k hlt
      have hPI := HOK1.out L[k] (List.getElem_mem hlt)
      generalize L[k] = s at *
      obtain ⟨sA, sc, sl⟩ := s
      simp only at hPI hx1W
      obtain ⟨_, hRs, _, _, hoks⟩ := hPI
      have hg1W := World.block_lt_of_cell? _ _ hx1W
      have hx1 : ∀ w', Frm (New W) W w' → w'.cell? ⟨g1, o1 + k, none⟩ = some (.slice sA sl.length sc) := fun w' f => by
        rw [f.cell (by unfold New; simp only at hg1W ⊢; omega)]; exact hx1W
      have hxw := hx1 wo hS.out.frm
      have hgw : g1 < wo.heap.size := Nat.lt_of_lt_of_le hg1W hS.out.frm.size
      have HX1 := Lib.hid hx1
      have HRS := Lib.hid hRs
      have HOKS := Lib.hid hoks
      clear hx1 hRs hoks
      clear hx1W
      by_cases q5 : 12 < sl.length
      · go_wp2
        go_ret
        exact ⟨rfl, hS.out.frm.below⟩
      go_wp2
      clear hxw hgw
      go_loopw [14, 15] (fun vb vj wi => ∃ (j : Nat) (A5 : Option Addr) (c5 : Nat) (bb : Bytes), j ≤ sl.length ∧ vb = .slice A5 bb.length c5 ∧ vj = .int .i64 j ∧ bb.length ≤ 900 * j ∧ Hid (App (New wo) wi 5 1 A5 bb.length c5 (bvs bb)) ∧ Hid (Frm (New wo) wo wi) ∧ Hid (∀ q, blk A5 = some q → q < wi.heap.size)) (fun _ vj _ => sl.length - (intOf vj).toNat)
      case atStart => exact ⟨0, none, 0, [], Nat.zero_le _, rfl, rfl, Nat.le_refl _, App.none_, Frm.refl _ _, fun q hq => by cases hq⟩
      case round =>
        obtain ⟨j, A5, c5, bb, hj, rfl, rfl, hbl, hA5, hF5, hB5⟩ := hrel
        rename World => wi
        have hFWi := hS.out.frm.then_new Up.new hF5.out
        have hxw := HX1.out wi hFWi
        have hgw : g1 < wi.heap.size := Nat.lt_of_lt_of_le hg1W hFWi.size
        by_cases hjl : j < sl.length
        · obtain ⟨g5, o5, rfl, hg5⟩ := HRS.out.lt (fun c => by have := congrArg List.length c; rw [flatL_length Pt.cells 5 pcells_len] at this; simp at this; omega)
          have hRw := HRS.out.keep hFWi (fun q hq c => by
            have hq2 : g5 = q := by simpa using hq
            unfold New at c
            omega)
          obtain ⟨hx0, hx1, hx2, hx3, hx4⟩ := part_cells hRw j hjl
          obtain ⟨⟨xk1, xk2⟩, xn, xv⟩ := HOKS.out sl[j] (List.getElem_mem hjl)
          have hpl := ptB_length sl[j]
          have hpp := ptB_pos sl[j]
          generalize sl[j] = x at *
          simp only [str] at hx2 hx3
          have hg5i : g5 < wi.heap.size := Nat.lt_of_lt_of_le hg5 hFWi.size
          have e1 := str_size x.n
          have e2 := str_size x.v
          have hw1 : IntKind.i64.wrap ((x.n.length : Int) + (x.v.length : Int)) = ((x.n.length + x.v.length : Nat) : Int) := by
            rw [show ((x.n.length : Int) + (x.v.length : Int)) = ((x.n.length + x.v.length : Nat) : Int) from by omega]
            exact IntWalk.i64_in _ (by omega)
          have HFWI := Lib.hid hFWi
          have HRW := Lib.hid hRw
          clear hFWi hRw
          go_upto_region 15 with (fail)
          go_quiet (fail)
          by_cases q6 : 200 < x.n.length + x.v.length
          · go_wp2
            go_ret
            exact ⟨rfl, (HFWI.out.drewN _).below⟩
          · go_upto_region 17 with (fail)
            have hFn : Frm (New wi) wi (wi.drewN nq) := (Frm.refl _ _).drewN nq
            have hx0 : (wi.drewN nq).cell? ⟨g5, o5 + j * 5, none⟩ = _ := hx0
            have hx1 : (wi.drewN nq).cell? ⟨g5, o5 + j * 5 + 1, none⟩ = _ := hx1
            have hx2 : (wi.drewN nq).cell? ⟨g5, o5 + j * 5 + 2, none⟩ = _ := hx2
            have hx3 : (wi.drewN nq).cell? ⟨g5, o5 + j * 5 + 3, none⟩ = _ := hx3
            have hx4 : (wi.drewN nq).cell? ⟨g5, o5 + j * 5 + 4, none⟩ = _ := hx4
            have hxw : (wi.drewN nq).cell? ⟨g1, o1 + k, none⟩ = _ := hxw
            have hg5n : g5 < (wi.drewN nq).heap.size := hg5i
            have hgwn : g1 < (wi.drewN nq).heap.size := hgw
            have hB5n : ∀ q, blk A5 = some q → q < (wi.drewN nq).heap.size := hB5.out
            have hA5n := hA5.out.fresh hFn
            have hF5n : Frm (New wo) wo (wi.drewN nq) := hF5.out.then_new (Up.new (w := wo)) hFn
            generalize wi.drewN nq = w5 at *
            have hp : Calls Try.prog 41 #[.slice A5 bb.length c5, .agg #[.int .u8 x.k, .int .u64 x.i, .string ⟨x.n.toArray⟩, .string ⟨x.v.toArray⟩, .bool x.h]] w5 (RetA (New wo) w5 (bb ++ ptB x)) :=
              bytes_any (New wo) bb A5 c5 x w5 ⟨xk1, xk2⟩ (Up.new.of hF5n.size) hA5n hB5n (by omega) ⟨by omega, by omega⟩
            have HP := Lib.hid hp
            have HFN := Lib.hid hFn
            have HB5N := Lib.hid hB5n
            have HA5N := Lib.hid hA5n
            have HF5N := Lib.hid hF5n
            clear hp hFn hB5n hA5n hF5n
            go_wp2_with (fail)
            refine HP.out.mono ?_
            rintro e w6 ⟨A6, c6, rfl, hA6, hF6⟩
            have hl6 : (bb ++ ptB x).length ≤ 900 * (j + 1) := by rw [List.length_append]; omega
            have hne6 : bvs (bb ++ ptB x) ≠ [] := fun c => by
              have := congrArg List.length c
              rw [bvs_length, List.length_append, List.length_nil] at this
              omega
            generalize bb ++ ptB x = b6 at *
            have hF56 := HF5N.out.trans hF6
            have HA6 := Lib.hid hA6
            have HF56 := Lib.hid hF56
            clear hA6 hF56
            go_wp2
            go_roundw
            case rel => exact ⟨j + 1, A6, c6, b6, by omega, rfl, by go_num, hl6, HA6, HF56, App.lt HA6.out hne6⟩
            case measure => simp [intOf]; omega
        · obtain rfl : j = sl.length := by omega
          have hb12 : bb.length ≤ 10800 := by omega
          obtain ⟨g2x, o2x, rfl, hy2⟩ := u16_get HR2.out k (by omega)
          obtain ⟨g3x, o3x, rfl, hy3⟩ := byte_get HR3.out k (by omega)
          obtain ⟨g4x, o4x, rfl, hy4⟩ := u16_get HR4.out k (by omega)
          have ha2 := HSM2.out ats[k] (List.getElem_mem _)
          have ha4 := HSM4.out lms[k] (List.getElem_mem _)
          generalize ats[k] = av at *
          generalize xs[k] = xv at *
          generalize lms[k] = lv at *
          have hxv := xv.toNat_lt
          have hl2 := World.block_lt_of_cell? _ _ hy2
          have hl3 := World.block_lt_of_cell? _ _ hy3
          have hl4 := World.block_lt_of_cell? _ _ hy4
          simp only at hl2 hl3 hl4
          have hY2 : ∀ w', Frm (New W) W w' → w'.cell? ⟨g2x, o2x + k, none⟩ = some (.int .u16 (av : Int)) := fun w' f => by
            rw [f.cell (by unfold New; simp only; omega)]; exact hy2
          have hY3 : ∀ w', Frm (New W) W w' → w'.cell? ⟨g3x, o3x + k, none⟩ = some (.int .u8 (xv.toNat : Int)) := fun w' f => by
            rw [f.cell (by unfold New; simp only; omega)]; exact hy3
          have hY4 : ∀ w', Frm (New W) W w' → w'.cell? ⟨g4x, o4x + k, none⟩ = some (.int .u16 (lv : Int)) := fun w' f => by
            rw [f.cell (by unfold New; simp only; omega)]; exact hy4
          have hsW := hFWi.size
          clear hy2 hy3 hy4
          have hy2 := hY2 wi hFWi
          have hy3 := hY3 wi hFWi
          have hw2 : g2x < wi.heap.size := by omega
          have hw3 : g3x < wi.heap.size := by omega
          obtain ⟨xm, hxm⟩ : ∃ xm, xm = xv.toNat % 8 := ⟨_, rfl⟩
          have mx : (xv.toNat : Int) % 8 = (xm : Int) := by omega
          have mx2 : Int.tmod (xv.toNat : Int) 8 = (xm : Int) := by rw [Int.tmod_eq_emod_of_nonneg (by omega)]; omega
          have HXM := Lib.hid hxm
          have HY2 := Lib.hid hY2
          have HY3 := Lib.hid hY3
          have HYY4 := Lib.hid hY4
          have HFWI := Lib.hid hFWi
          clear hxm hY2 hY3 hY4 hFWi
          clear HY2 HY3
          go_upto_region 18 with (fail)
          go_cut [110] from 50 to 180 (fun v110 w5 => w5 = wi ∧ ∃ t : Bool, v110 = .bool t ∧ (t = true → 0 < bb.length))
          case first =>
            by_cases hb0 : bb.length = 0
            · have hd : decide ((0 : Int) < (bb.length : Int)) = false := decide_eq_false (by omega)
              go_wp2
              go_meet
              exact ⟨rfl, false, rfl, fun c => by cases c⟩
            · have hd : decide ((0 : Int) < (bb.length : Int)) = true := decide_eq_true (by omega)
              by_cases hx8 : xm = 1
              · subst hx8
                go_wp2
                go_meet
                exact ⟨rfl, true, rfl, fun _ => by omega⟩
              · have h81 : ((xm : Int) == 1) = false := by rw [beq_eq_false_iff_ne]; omega
                go_wp2
                go_meet
                exact ⟨rfl, false, rfl, fun c => by cases c⟩
          case rest =>
            obtain ⟨rfl, t, rfl, ht⟩ := hcut
            rename World => wi
            go_upto_if 110 with (fail)
            go_cut [] from 50 to 180 (fun w5 => ∃ (w6 : World) (b2 : Bytes), w5 = w6 ∧ Hid (b2.length = bb.length) ∧ Hid (App (New wo) w6 5 1 A5 bb.length c5 (bvs b2)) ∧ Hid (Frm (New wo) wo w6) ∧ Hid (∀ q, blk A5 = some q → q < w6.heap.size))
            case first =>
              cases t with
              | false =>
                go_wp2
                go_meet
                exact ⟨_, bb, rfl, rfl, hA5, hF5, hB5⟩
              | true =>
                have hb0 := ht rfl
                obtain ⟨j2, hj2⟩ : ∃ j2, j2 = av % bb.length := ⟨_, rfl⟩
                have hj2l : j2 < bb.length := by rw [hj2]; exact Nat.mod_lt _ hb0
                have ma : (av : Int) % (bb.length : Int) = (j2 : Int) := by rw [hj2]; rfl
                have ma2 : Int.tmod (av : Int) (bb.length : Int) = (j2 : Int) := by rw [Int.tmod_eq_emod_of_nonneg (by omega)]; exact ma
                have hwa : IntKind.i64.wrap (av : Int) = av := IntWalk.i64_in _ (by omega)
                obtain ⟨g6, o6, rfl, hcell, hfz, hM6, hlt6, hset⟩ := hA5.out.set j2 hj2l
                obtain ⟨z, hz⟩ := byte_xor (bb[j2].toNat : Int) (xv.toNat : Int)
                have hbz := bb[j2].toNat_lt
                generalize bb[j2] = bj at *
                have hne0 : ((bb.length : Int) == 0) = false := by rw [beq_eq_false_iff_ne]; omega
                have HJ2 := Lib.hid hj2
                have HSET := Lib.hid hset
                clear hj2 hset
                go_upto_region 19 with (fail)
                go_region
                all_goals go_wp2
                all_goals go_meet
                all_goals exact ⟨_, bb.set j2 z, rfl, List.length_set, (HSET.out z).drew, (hF5.out.setCell (p := ⟨g6, o6 + j2, none⟩) hM6 _).drew, fun q hq => by
                  have hq2 : g6 = q := by simpa using hq
                  subst hq2
                  show g6 < (wi.setCell _ _).heap.size
                  simpa using hlt6⟩
            case rest =>
              obtain ⟨w6, b2, rfl, hbl2, hA6, hF6, hB6⟩ := hcut
              rename World => w6
              have hFW6 := hS.out.frm.then_new Up.new hF6.out
              have hD6 := hS.out.fresh hF6.out
              have hfar6 : DFar w6 S' pd S2' p2 A5 := DFar.new hS.out (fun q hq => ⟨hA6.out.inM q hq, hB6.out q hq⟩)
              have hA6r := hA6.out.rd
              have hA6c := hA6.out.cap
              have hbe := hbl2.out
              clear hA5 hF5 hB5 hA6 hF6 hB6 HFWI hbl2 ht hy2 hy3 hw2 hw3 hxw hgw mx mx2
              generalize bb.length = nb at *
              subst hbe
              have HD6 := Lib.hid hD6
              have HFAR6 := Lib.hid hfar6
              have HA6R := Lib.hid hA6r
              have HFW6 := Lib.hid hFW6
              clear hD6 hfar6 hA6r hFW6
              go_wp2_with (fail)
              refine (hstep HD6.out b2 A5 c5 HA6R.out hA6c HFAR6.out (by omega) (fun q => by have := hn.out q; omega)).mono ?_
              rintro e w7 ⟨S7, D7, A7, c7, rfl, hS7, hK7, hd7, hF7, hO7, _⟩
              have hR7 := HA6R.out.keep hF7 HFAR6.out.not_h
              have hfar7 := HFAR6.out.hdec hF7 hO7
              have HS7 := Lib.hid hS7
              have HK7 := Lib.hid hK7
              have HR7 := Lib.hid hR7
              have HFAR7 := Lib.hid hfar7
              have HD7 := Lib.hid hd7
              clear hS7 hK7 hR7 hfar7 hd7
              clear hF7 hO7
              go_wp2_with (fail)
              refine (rstep HS7.out b2 A5 c5 HR7.out hA6c HFAR7.out (by omega) (fun q => by have := hn2.out q; omega)).mono ?_
              rintro e w8 ⟨S8, D8, A8, c8, rfl, hS8, hK8, hd8, hF8, hO8, _⟩
              have hK78 := HK7.out.rdec hF8 hO8
              have hll := run_le D b2
              have hal8 := hal.out.next HD7.out hd8
              have hn7 := oD_n HD7.out hn.out
              have hn8 := oD_n hd8 hn2.out
              have htt : ∀ q, D.run b2 = some q → D7.t = D8.t := fun q hq => by
                have h1 := HD7.out
                have h2 := hd8
                rw [← hal.out.run b2] at h2
                rw [hq] at h1 h2
                have h1' : D7 = ⟨q.2, D.max, false, false⟩ := h1
                have h2' : D8 = ⟨q.2, D2.max, false, false⟩ := h2
                rw [h1', h2']
              rw [← hal.out.run b2] at hK8 ⊢
              clear hd8
              have HS8 := Lib.hid hS8
              have HK8 := Lib.hid hK8
              have HK78 := Lib.hid hK78
              have HAL8 := Lib.hid hal8
              have HN7 := Lib.hid hn7
              have HN8 := Lib.hid hn8
              have HTT := Lib.hid htt
              clear hS8 hK8 hK78 hal8 hn7 hn8 htt
              clear hF8 hO8 HD6 HFAR6 HFAR7 HR7 HS7 HK7 HD7
              generalize D.run b2 = o at *
              go_upto_region 22 with (fail)
              go_cut [158] from 50 to 180 (fun v w5 => ∃ w9, w5 = w9 ∧ v = .bool false ∧ Hid (Frm (New w8) w8 w9))
              case first =>
                cases o with
                | none =>
                  simp only [oL] at HK8 HK78
                  go_wp2_with (go_at_call 31; refine (fields_eq [] _ _ _ _ _ HK78.out.rd HK8.out.rd (by simp)).mono ?_; rintro e w9 ⟨rfl, n9, hw9⟩; rw [hw9]; clear hw9)
                  go_meet
                  exact ⟨_, rfl, rfl, (Frm.refl _ _).drewN n9⟩
                | some q =>
                  have ht := HTT.out q rfl
                  obtain ⟨ls, T⟩ := q
                  simp only [oL] at HK8 HK78 hll
                  have HT := Lib.hid ht
                  clear ht
                  go_wp2_with (first
                    | (go_at_call 31; refine (fields_eq ls _ _ _ _ _ HK78.out.rd HK8.out.rd (by omega)).mono ?_; rintro e w9 ⟨rfl, n9, hw9⟩; rw [hw9]; clear hw9)
                    | (go_at_call 46; refine (alike_any (HS8.out.fresh ((Frm.refl _ _).drewN n9)) HT.out).mono ?_; rintro e w10 ⟨rfl, hF10⟩))
                  go_meet
                  exact ⟨_, rfl, rfl, ((Frm.refl (New w8) w8).drewN n9).then_new Up.new hF10⟩
              case rest =>
                obtain ⟨w9, rfl, rfl, hF9⟩ := hcut
                rename World => w9
                have hS9 := HS8.out.fresh hF9.out
                have hy4 := HYY4.out w9 hS9.frm
                have hw4 : g4x < w9.heap.size := by have := hS9.frm.size; omega
                obtain ⟨l4, hl4e⟩ : ∃ l4, l4 = lv % 4 := ⟨_, rfl⟩
                obtain ⟨m3, hm3⟩ : ∃ m3, m3 = lv % 300 := ⟨_, rfl⟩
                have ml : (lv : Int) % 4 = (l4 : Int) := by omega
                have ml2 : Int.tmod (lv : Int) 4 = (l4 : Int) := by rw [Int.tmod_eq_emod_of_nonneg (by omega)]; omega
                have mm : (lv : Int) % 300 = (m3 : Int) := by omega
                have mm2 : Int.tmod (lv : Int) 300 = (m3 : Int) := by rw [Int.tmod_eq_emod_of_nonneg (by omega)]; omega
                have wl : IntKind.i64.wrap (lv : Int) = lv := IntWalk.i64_in _ (by omega)
                have hm39 : m3 < 300 := by omega
                clear hl4e hm3
                have HS9 := Lib.hid hS9
                clear hS9
                by_cases h40 : l4 = 0
                · subst h40
                  go_wp2_with (fail)
                  refine (hlimit_any (m3 : Int) (by omega) (by omega) w9 HS9.out.de).mono ?_
                  rintro e w10 ⟨rfl, hE10, hF10⟩
                  have hS10 := HS9.out.hdec hE10 hF10 (fun _ hk => .inl hk)
                  clear hy4 hw4 hE10 hF10
                  have hy4 := HYY4.out w10 hS10.frm
                  have hw4 : g4x < w10.heap.size := by have := hS10.frm.size; omega
                  have HS10 := Lib.hid hS10
                  clear hS10
                  go_wp2_with (fail)
                  refine (rdlimit_any (m3 : Int) (by omega) (by omega) w10 HS10.out.rd).mono ?_
                  rintro e w11 ⟨rfl, hE11, hF11⟩
                  have hS11 := HS10.out.rdec hE11 hF11 (fun _ hk => .inl hk)
                  clear hE11 hF11
                  have HS11 := Lib.hid hS11
                  clear hS11
                  go_wp2
                  go_roundw
                  case rel =>
                    refine ⟨k + 1, S7, D7.limit (m3 : Int), S8, D8.limit (m3 : Int), by omega, by go_num, HS11, HAL8.out.limit _, fun q => ?_, fun q => ?_⟩
                    · rw [(limit_bad D7 _).1] at q
                      rw [(limit_bad D7 _).2]
                      have := HN7.out q; omega
                    · rw [(limit_bad D8 _).1] at q
                      rw [(limit_bad D8 _).2]
                      have := HN8.out q; omega
                  case measure => simp [intOf]; omega
                · have h41 : ((l4 : Int) == 0) = false := by rw [beq_eq_false_iff_ne]; omega
                  go_wp2
                  go_roundw
                  case rel => exact ⟨k + 1, S7, D7, S8, D8, by omega, by go_num, HS9, HAL8, fun q => by have := HN7.out q; omega, fun q => by have := HN8.out q; omega⟩
                  case measure => simp [intOf]; omega
    · obtain rfl : k = L.length := by omega
      go_wp2
      go_ret
      exact ⟨rfl, hS.out.frm.below⟩
end Go.Proofs.Ytcebckkpablagaa.M
