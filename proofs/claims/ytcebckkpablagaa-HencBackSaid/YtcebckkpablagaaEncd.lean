/- henc.one: what a field is written as. Sizes below 2^39. -/
import Derived.Test.YtcebckkpablagaaEnca
namespace Go.Proofs.Ytcebckkpablagaa.M
open Go.ChangeShapes Go.WideShapes Go.ChangeAt Go.RowKit

theorem placeS_le (T : Tb) (f : Fld) : (placeS T f).1 ≤ 123 + T.n := by
  have h := h2S_le f
  unfold placeS
  generalize h2S f = q at *
  obtain ⟨i, ok, whole⟩ := q
  generalize T.find f = r
  obtain ⟨k, there, all⟩ := r
  simp only at h ⊢
  split
  · simp only; omega
  · split
    · simp only; omega
    · split
      · simp only; omega
      · split
        · simp only; omega
        · simp

theorem hgo_length : ∀ (l : List UInt8) (acc n : Nat), (hgo l acc n).length ≤ 5 * l.length + 1
  | [], _, _ => by unfold hgo; split <;> simp
  | b :: r, acc, n => by
    unfold hgo
    have h1 := emit_length 5 (acc * 2 ^ (codes.getD b.toNat (0, 0)).2 + (codes.getD b.toNat (0, 0)).1) (n + (codes.getD b.toNat (0, 0)).2)
    have h2 := hgo_length r ((acc * 2 ^ (codes.getD b.toNat (0, 0)).2 + (codes.getD b.toNat (0, 0)).1) % 2 ^ ((n + (codes.getD b.toNat (0, 0)).2) % 8)) ((n + (codes.getD b.toNat (0, 0)).2) % 8)
    simp only [List.length_append, List.length_cons]
    omega
theorem strc_le (a b k : Nat) (l : Bytes) : (strc a b k l).length ≤ 5 * l.length + 13 := by
  unfold strc
  split
  · have h1 := pfx_length a k (hlen l)
    have h2 := hgo_length l 0 0
    rw [List.length_append]
    show _ + (hgo l 0 0).length ≤ _
    omega
  · have := pfx_length b k l.length
    rw [List.length_append]; omega

theorem strb_any (l : Bytes) (A : Option Addr) (c : Nat) (s : Bytes) (w : World) (hR : Rd w A (bvs l)) (hl : l.length ≤ 1099511627000) (hs : s.length ≤ 1099511627776) :
    Calls Try.prog 16 #[.slice A l.length c, .string ⟨s.toArray⟩] w (RetB w (l ++ strc 128 0 7 s)) :=
  str_any l A c ⟨s.toArray⟩ w hR hl (by show s.toArray.size ≤ _; simpa using hs)

theorem pfx_pos (f k v : Nat) : 0 < (pfx f k v).length := by
  unfold pfx
  split <;> simp

theorem Tb.add_cap (T : Tb) (x : Fld) : (T.add x).cap = T.cap := by
  unfold Tb.add
  split <;> rfl
theorem addS_any {S : Nat → Prop} {g : Nat} {T : Tb} (x : Fld) (F : Option Addr) (cf : Nat) (w : World)
    (h : TabS S w g T) (hR : Rd w F (fvs [x])) (hF : ∀ k, blk F = some k → ¬ S k) (hn : T.n < 1152921504606846976) (hx : fsize x ≤ 1152921504606846976) (hc : T.cap ≤ 70368744177664) :
    Calls Try.prog 79 #[.pointer (some ⟨g, 0, none⟩), .slice F 1 cf] w fun e w' => (∃ m : Int, e = .returned (.int .i64 m)) ∧
      ∃ S', TabS S' w' g (T.add x) ∧ Frm (Own S w) w w' ∧ ∀ k, S' k → Own S w k := by
  obtain ⟨A, c, a, b, ew, en, h⟩ := h
  refine (add_any x F cf w h hR hF hn hx hc).mono ?_
  rintro e w' ⟨h1, S', A', c', ew', en', h2, h3, h4⟩
  refine ⟨h1, S', ⟨A', c', a, b, ew', en', ?_⟩, h3, h4⟩
  rw [Tb.add_cap]
  exact h2

set_option maxRecDepth 100000 in
set_option maxHeartbeats 1000000 in
theorem one0_any {S : Nat → Prop} {p g ls : Nat} {E : En} {ch : Bool} (l : Bytes) (A : Option Addr) (c : Nat) (f : Fld) (w : World) (h : EnAt S w p g E ch ls) (hR : Rd w A (bvs l))
    (hl : l.length ≤ 549755813888) (hf : fsize f ≤ 68719476736) (hn : E.t.n < 1152921504606846976) :
    Calls Try.prog 53 #[.pointer (some ⟨p, 0, none⟩), .slice A l.length c, fld f] w fun e w' =>
      ∃ S' A' c', e = .returned (.slice A' (l ++ oneB E.t f).length c') ∧ App (New w) w' 5 1 A' (l ++ oneB E.t f).length c' (bvs (l ++ oneB E.t f)) ∧ (∀ k, blk A' = some k → ¬ S' k) ∧
        EnAt S' w' p g ⟨oneT E.t f, E.least⟩ ch ls ∧ Frm (Own S w) w w' ∧ ∀ k, S' k → Own S w k := by
  have hi := placeS_le E.t f
  have HB0 : Hid (oneB E.t f = match placeS E.t f with
    | (i, whole) =>
      if whole then pfx 128 7 i
      else (if secret f.1 then pfx 16 4 i else if E.t.cap / 2 < fsize f then pfx 0 4 i else pfx 64 6 i) ++ (if i = 0 then strc 128 0 7 f.1 else []) ++ strc 128 0 7 f.2) := rfl
  have HT0 : Hid (oneT E.t f = if (placeS E.t f).2 then E.t else if secret f.1 then E.t else if E.t.cap / 2 < fsize f then E.t else E.t.add f) := rfl
  have hc1 : ∀ w, EnAt S w p g E ch ls → Calls Try.prog 76 #[.pointer (some ⟨p, 0, none⟩), fld f] w fun e w' => e = .returned (.tuple #[.int .u64 (placeS E.t f).1, .bool (placeS E.t f).2]) ∧ Frm (New w) w w' := fun w hw => place_any f w hw
  have hc2 := fun w => secret_any f.1 w
  have hc3 : ∀ w, TabS S w g E.t → Calls Try.prog 29 #[.pointer (some ⟨g, 0, none⟩)] w fun e w' => e = .returned (.int .i64 E.t.cap) ∧ w' = w := fun w hw => by
    obtain ⟨A, c, a, b, ew, en, hw⟩ := hw
    exact tcap_any w hw
  generalize placeS E.t f = q at *
  obtain ⟨i, whole⟩ := q
  have hcap := h.cap
  generalize hcc : E.t.cap = cap at *
  have HCC := Lib.hid hcc
  obtain ⟨f1, f2⟩ := f
  have hfz : Hid (fsize (f1, f2) = f1.length + f2.length + 32) := rfl
  have hf1 : f1.length ≤ 68719476736 := by unfold fsize at hf; simp only at hf; omega
  have hf2 : f2.length ≤ 68719476736 := by unfold fsize at hf; simp only at hf; omega
  simp only [fld, str] at hc1 hc2 hi ⊢
  generalize secret f1 = sec at *
  generalize hn0 : E.t.n = n at *
  have HN := Lib.hid hn0
  have HC1 := Lib.hid hc1
  have HC2 := Lib.hid hc2
  have HC3 := Lib.hid hc3
  have H := Lib.hid h
  have HR := Lib.hid hR
  clear hc1 hc2 hc3 h hn0 hcc hR
  go_enter Try.func53, Try.ntmps53
  go_upto_region 1 with (fail)
  have HB : Blk (w.alloc (Obj.cells #[Value.string { data := List.toArray f1 }, Value.string { data := List.toArray f2 }] 30)) w.heap.size 30 #[Value.string { data := List.toArray f1 }, Value.string { data := List.toArray f2 }] := Blk.new w _ _
  have H0 : Frm (New w) w (w.alloc (Obj.cells #[Value.string { data := List.toArray f1 }, Value.string { data := List.toArray f2 }] 30)) := (Frm.refl _ _).alloc Up.new _
  have H1 := H.out.fresh H0
  generalize w.alloc (Obj.cells #[Value.string { data := List.toArray f1 }, Value.string { data := List.toArray f2 }] 30) = w1 at *
  generalize hb : w.heap.size = b at *
  have hx1 := HB.cell 0
  have hx2 := HB.cell 1
  have hb1 : b < w1.heap.size := HB.lt
  simp only [List.getElem?_toArray, List.getElem?_cons_zero, List.getElem?_cons_succ] at hx1 hx2
  have HB := Lib.hid HB
  have H0 := Lib.hid H0
  have H1 := Lib.hid H1
  have HBW := Lib.hid hb
  clear hb
  go_upto_region 2 with (first
    | (go_at_call 76
       refine (HC1.out _ H1.out).mono ?_
       rintro e w2 ⟨rfl, hF2⟩
       have hx3 := (HB.out.fresh hF2).cell 0
       have hx4 := (HB.out.fresh hF2).cell 1
       have hb2 : b < w2.heap.size := (HB.out.fresh hF2).lt
       simp only [List.getElem?_toArray, List.getElem?_cons_zero, List.getElem?_cons_succ] at hx3 hx4
       have H2 := Lib.hid (H1.out.fresh hF2)
       have HB2 := Lib.hid (HB.out.fresh hF2)
       have hF2 : Hid (Frm (New w) w w2) := H0.out.then_new Up.new hF2
       clear hx1 hx2 hb1 HB H1 H0))
  cases whole with
  | true =>
    have hB0 : Hid (oneB E.t (f1, f2) = pfx 128 7 i) := HB0.out
    have hT0 : Hid (oneT E.t (f1, f2) = E.t) := HT0.out
    clear HB0 HT0
    go_wp2_with (first
      | (go_at_call 75
         refine (prefix_nat l A c 128 7 i _ (HR.out.fresh hF2.out) (by omega) (by omega) (by omega) (by omega) (by omega)).mono ?_
         rintro e w3 ⟨A3, c3, rfl, hA3, hF3⟩
         have H3 := Lib.hid (H2.out.fresh hF3)
         have hA3 := Lib.hid hA3
         have hF3 := Lib.hid hF3))
    go_ret
    rw [hB0.out, hT0.out]
    have hs2 := hF2.out.size
    refine ⟨S, A3, c3, by simp, hA3.out.mono (fun k hk => Nat.le_trans hs2 hk), fun k hk c => ?_, H3.out, (hF2.out.then_new Up.new hF3.out).mono (fun k hk => .inr hk), fun k hk => .inl hk⟩
    have h1 := H2.out.tab.low k c
    have h2 := hA3.out.inM k hk
    unfold New at h2
    omega
  | false =>
    cases sec with
    | true =>
      have hB0 : Hid (oneB E.t (f1, f2) = pfx 16 4 i ++ (if i = 0 then strc 128 0 7 f1 else []) ++ strc 128 0 7 f2) := HB0.out
      have hT0 : Hid (oneT E.t (f1, f2) = E.t) := HT0.out
      clear HB0 HT0
      go_upto_region 10 with (first
        | (go_at_call 77
           refine (HC2.out _).mono ?_
           rintro e w2 ⟨rfl, rfl⟩)
        | (go_at_call 75
           refine (prefix_nat l A c 16 4 i _ (HR.out.fresh hF2.out) (by omega) (by omega) (by omega) (by omega) (by omega)).mono ?_
           rintro e w3 ⟨A3, c3, rfl, hA3, hF3⟩
           have hx5 := (HB2.out.fresh hF3).cell 0
           have hx6 := (HB2.out.fresh hF3).cell 1
           have hb3 : b < w3.heap.size := (HB2.out.fresh hF3).lt
           have hpt5 := (H2.out.fresh hF3).blk.cell 0
           have hp5 : p < w3.heap.size := (H2.out.fresh hF3).blk.lt
           simp only [List.getElem?_toArray, List.getElem?_cons_zero, List.getElem?_cons_succ] at hx5 hx6 hpt5
           have H3 := Lib.hid (H2.out.fresh hF3)
           have HB3 := Lib.hid (HB2.out.fresh hF3)
           have hs2 := hF2.out.size
           have hA3 : Hid (App (New w) w3 5 1 A3 (l ++ pfx 16 4 i).length c3 (bvs (l ++ pfx 16 4 i))) := hA3.mono (fun k hk => Nat.le_trans hs2 hk)
           have hF3 : Hid (Frm (New w) w w3) := hF2.out.then_new Up.new hF3
           have hpl := pfx_length 16 4 i
           have hl3 : (l ++ pfx 16 4 i).length ≤ 549755813900 := by rw [List.length_append]; omega
           have hl30 : 0 < (l ++ pfx 16 4 i).length := by have := pfx_pos 16 4 i; rw [List.length_append]; omega
           clear hx3 hx4 hb2 HB2 hF2 H2 hs2
           generalize hl3e : l ++ pfx 16 4 i = l3 at *
           have HL3 := Lib.hid hl3e
           clear hl3e
           generalize pfx 16 4 i = pre at *))
      have HB1 : Hid (l ++ oneB E.t (f1, f2) = l3 ++ (if i = 0 then strc 128 0 7 f1 else []) ++ strc 128 0 7 f2) := by
        show _ = _
        rw [hB0.out, ← HL3.out]; simp only [List.append_assoc]
      clear hB0 HL3
      have hst1 := strc_le 128 0 7 f1
      have hst2 := strc_le 128 0 7 f2
      rcases Nat.eq_zero_or_pos i with hi0 | hi0
      · have HB5 : Hid (l ++ oneB E.t (f1, f2) = (l3 ++ strc 128 0 7 f1) ++ strc 128 0 7 f2) := by
          show _ = _
          rw [HB1.out, if_pos hi0]
        clear HB1
        subst hi0
        go_upto_region 12 with (first
          | (go_at_call 16
             refine (strb_any l3 A3 c3 f1 _ hA3.out.rd (by omega) (by omega)).mono ?_
             rintro e w4 ⟨A4, c4, rfl, hA4, hF4⟩
             have hs3 := hF3.out.size
             have hx7 := (HB3.out.fresh hF4).cell 0
             have hx8 := (HB3.out.fresh hF4).cell 1
             have hb4 : b < w4.heap.size := (HB3.out.fresh hF4).lt
             have hpt7 := (H3.out.fresh hF4).blk.cell 0
             have hp7 : p < w4.heap.size := (H3.out.fresh hF4).blk.lt
             simp only [List.getElem?_toArray, List.getElem?_cons_zero, List.getElem?_cons_succ] at hx7 hx8 hpt7
             have H4 := Lib.hid (H3.out.fresh hF4)
             have HB4 := Lib.hid (HB3.out.fresh hF4)
             have hA4 : Hid (App (New w) w4 5 1 A4 (l3 ++ strc 128 0 7 f1).length c4 (bvs (l3 ++ strc 128 0 7 f1))) := hA4.mono (fun k hk => Nat.le_trans hs3 hk)
             have hF4 : Hid (Frm (New w) w w4) := hF3.out.then_new Up.new hF4
             have hl4 : (l3 ++ strc 128 0 7 f1).length ≤ 893353197600 := by rw [List.length_append]; omega
             have hl5 : 0 < (l3 ++ strc 128 0 7 f1).length := by rw [List.length_append]; omega
             clear hx5 hx6 hb3 HB3 hF3 H3 hs3 hpt5 hp5 hA3
             generalize l3 ++ strc 128 0 7 f1 = l4 at *))
        go_wp2_with (first
          | (go_at_call 16
             refine (strb_any l4 A4 c4 f2 _ hA4.out.rd (by omega) (by omega)).mono ?_
             rintro e w5 ⟨A5, c5, rfl, hA5, hF5⟩
             have H5 := Lib.hid (H4.out.fresh hF5)
             have hA5 := Lib.hid hA5
             have hF5 := Lib.hid hF5))
        go_ret
        rw [HB5.out, hT0.out]
        have hs4 := hF4.out.size
        refine ⟨S, A5, c5, by simp, hA5.out.mono (fun k hk => Nat.le_trans hs4 hk), fun k hk c => ?_, H5.out, (hF4.out.then_new Up.new hF5.out).mono (fun k hk => .inr hk), fun k hk => .inl hk⟩
        have h1 := H4.out.tab.low k c
        have h2 := hA5.out.inM k hk
        unfold New at h2
        omega
      · have HB5 : Hid (l ++ oneB E.t (f1, f2) = l3 ++ strc 128 0 7 f2) := by
          show _ = _
          rw [HB1.out, if_neg (by omega), List.append_nil]
        clear HB1
        go_upto_region 12 with (fail)
        have H4 := H3
        have HB4 := HB3
        have hA4 := hA3
        have hF4 := hF3
        have hx7 := hx5
        have hx8 := hx6
        have hpt7 := hpt5
        have hp7 := hp5
        have hb4 := hb3
        have hl4 : l3.length ≤ 893353197600 := by omega
        have hl5 := hl30
        clear hx5 hx6 hb3 HB3 hF3 H3 hpt5 hp5 hA3
        obtain ⟨A4, c4, w4, l4, rfl, rfl, rfl, rfl⟩ : ∃ (A4 : Option Addr) (c4 : Nat) (w4 : World) (l4 : Bytes), A4 = A3 ∧ c4 = c3 ∧ w4 = w3 ∧ l4 = l3 := ⟨_, _, _, _, rfl, rfl, rfl, rfl⟩
        go_wp2_with (first
          | (go_at_call 16
             refine (strb_any l4 A4 c4 f2 _ hA4.out.rd (by omega) (by omega)).mono ?_
             rintro e w5 ⟨A5, c5, rfl, hA5, hF5⟩
             have H5 := Lib.hid (H4.out.fresh hF5)
             have hA5 := Lib.hid hA5
             have hF5 := Lib.hid hF5))
        go_ret
        rw [HB5.out, hT0.out]
        have hs4 := hF4.out.size
        refine ⟨S, A5, c5, by simp, hA5.out.mono (fun k hk => Nat.le_trans hs4 hk), fun k hk c => ?_, H5.out, (hF4.out.then_new Up.new hF5.out).mono (fun k hk => .inr hk), fun k hk => .inl hk⟩
        have h1 := H4.out.tab.low k c
        have h2 := hA5.out.inM k hk
        unfold New at h2
        omega
    | false =>
      go_upto_region 8 with (first
        | (go_at_call 77
           refine (HC2.out _).mono ?_
           rintro e w2 ⟨rfl, rfl⟩))
      have hs1 : Hid (fsizes [(f1, f2)] = fsize (f1, f2)) := by show _ = _; simp [fsizes]
      have hpt := H2.out.blk.cell 0
      have hp2 : p < w2.heap.size := H2.out.blk.lt
      simp only [List.getElem?_toArray, List.getElem?_cons_zero] at hpt
      have hK : ∀ w' : World, Frm (New w2) w2 w' → w'.cell? ⟨p, 0, none⟩ = some (.pointer (some ⟨g, 0, none⟩)) ∧ w'.cell? ⟨b, 0, none⟩ = some (.string ⟨f1.toArray⟩) ∧ w'.cell? ⟨b, 1, none⟩ = some (.string ⟨f2.toArray⟩) ∧ Hid (Frm (New w2) w2 w') := fun w' hf =>
        ⟨(hf.cell (p := ⟨p, 0, none⟩) (fun c => by unfold New at c; simp at c; omega)).trans hpt, (hf.cell (p := ⟨b, 0, none⟩) (fun c => by unfold New at c; simp at c; omega)).trans hx3, (hf.cell (p := ⟨b, 1, none⟩) (fun c => by unfold New at c; simp at c; omega)).trans hx4, hf⟩
      have HK := Lib.hid hK
      have HZ := Lib.hid hfz.out
      generalize hz : fsize (f1, f2) = sz at *
      have hdv : Int.tdiv (cap : Int) 2 = ((cap / 2 : Nat) : Int) := by rw [Int.tdiv_eq_ediv_of_nonneg (by omega)]; omega
      generalize hc2 : cap / 2 = cap2 at *
      have hwc : IntKind.i64.wrap (cap2 : Int) = cap2 := IntWalk.i64_in _ (by omega)
      have HC4 := Lib.hid hc2
      have HZ2 := Lib.hid hz
      clear hK hc2 hz
      go_cut [30] from 10 (fun v30 w3 => v30 = .bool (decide (cap2 < sz)) ∧ Hid (Frm (New w2) w2 w3))
      case first =>
          by_cases hq : cap2 < sz
          all_goals
            go_region_held3 (fun w' => w'.cell? ⟨p, 0, none⟩ = some (.pointer (some ⟨g, 0, none⟩)) ∧ w'.cell? ⟨b, 0, none⟩ = some (.string ⟨f1.toArray⟩) ∧ w'.cell? ⟨b, 1, none⟩ = some (.string ⟨f2.toArray⟩) ∧ Hid (Frm (New w2) w2 w'))
              (first
                | exact HK.out _ hT
                | exact HK.out _ ((Frm.refl _ _).drew)
                | exact HK.out _ ((Frm.refl _ _).alloc Up.new _).drew
                | exact HK.out _ ((Frm.refl _ _).drew.alloc Up.new _))
              (first
                | (go_at_call 78
                   refine (size_any [(f1, f2)] _ 1 _ (by first | exact Rd.new _ #[.string ⟨f1.toArray⟩, .string ⟨f2.toArray⟩] _ | exact (Rd.new _ #[.string ⟨f1.toArray⟩, .string ⟨f2.toArray⟩] _).drew) (by rw [hs1.out]; omega) (by simp)).mono ?_
                   rintro e w3 ⟨rfl, hFs⟩
                   have hT : Frm (New w2) w2 w3 := Frm.then_new (by first | exact ((Frm.refl _ _).drew).alloc Up.new _ | exact ((Frm.refl _ _).alloc Up.new _).drew) Up.new hFs
                   rw [hs1.out])
                | (go_at_call 29
                   refine (HC3.out _ (H2.out.tab.fresh (by first | exact hT | exact (Frm.refl _ _).drew | exact ((Frm.refl _ _).drew).alloc Up.new _ | exact ((Frm.refl _ _).alloc Up.new _).drew))).mono ?_
                   rintro e w4 ⟨rfl, rfl⟩)
                | fail)
          all_goals go_wp2
          all_goals go_meet
          all_goals refine ⟨by simp [hq], ?_⟩
          all_goals first | exact hT | (go_split_ands; assumption)
      case rest =>
        obtain ⟨rfl, hFw⟩ := hcut
        rename World => w6
        have hx3 := (HB2.out.fresh hFw.out).cell 0
        have hx4 := (HB2.out.fresh hFw.out).cell 1
        have hb2 : b < w6.heap.size := (HB2.out.fresh hFw.out).lt
        simp only [List.getElem?_toArray, List.getElem?_cons_zero, List.getElem?_cons_succ] at hx3 hx4
        replace H2 := Lib.hid (H2.out.fresh hFw.out)
        replace HB2 := Lib.hid (HB2.out.fresh hFw.out)
        replace hF2 : Hid (Frm (New w) w w6) := hF2.out.then_new Up.new hFw.out
        clear HK hFw hpt hp2 hdv hwc
        by_cases hq : cap2 < sz
        · have hB0 : Hid (oneB E.t (f1, f2) = pfx 0 4 i ++ (if i = 0 then strc 128 0 7 f1 else []) ++ strc 128 0 7 f2) := by
            show _ = _
            rw [HB0.out]
            simp only [if_pos hq, Bool.false_eq_true, if_false]
          have hT0 : Hid (oneT E.t (f1, f2) = E.t) := by
            show _ = _
            rw [HT0.out]
            simp only [if_pos hq, Bool.false_eq_true, if_false]
          clear HB0 HT0
          go_upto_region 10 with (first
            | (go_at_call 75
               refine (prefix_nat l A c 0 4 i _ (HR.out.fresh hF2.out) (by omega) (by omega) (by omega) (by omega) (by omega)).mono ?_
               rintro e w3 ⟨A3, c3, rfl, hA3, hF3⟩
               have hx5 := (HB2.out.fresh hF3).cell 0
               have hx6 := (HB2.out.fresh hF3).cell 1
               have hb3 : b < w3.heap.size := (HB2.out.fresh hF3).lt
               have hpt5 := (H2.out.fresh hF3).blk.cell 0
               have hp5 : p < w3.heap.size := (H2.out.fresh hF3).blk.lt
               simp only [List.getElem?_toArray, List.getElem?_cons_zero, List.getElem?_cons_succ] at hx5 hx6 hpt5
               have H3 := Lib.hid (H2.out.fresh hF3)
               have HB3 := Lib.hid (HB2.out.fresh hF3)
               have hs2 := hF2.out.size
               have hA3 : Hid (App (New w) w3 5 1 A3 (l ++ pfx 0 4 i).length c3 (bvs (l ++ pfx 0 4 i))) := hA3.mono (fun k hk => Nat.le_trans hs2 hk)
               have hF3 : Hid (Frm (New w) w w3) := hF2.out.then_new Up.new hF3
               have hpl := pfx_length 0 4 i
               have hl3 : (l ++ pfx 0 4 i).length ≤ 549755813900 := by rw [List.length_append]; omega
               have hl30 : 0 < (l ++ pfx 0 4 i).length := by have := pfx_pos 0 4 i; rw [List.length_append]; omega
               clear hx3 hx4 hb2 HB2 hF2 H2 hs2
               generalize hl3e : l ++ pfx 0 4 i = l3 at *
               have HL3 := Lib.hid hl3e
               clear hl3e
               generalize pfx 0 4 i = pre at *))
          have HB1 : Hid (l ++ oneB E.t (f1, f2) = l3 ++ (if i = 0 then strc 128 0 7 f1 else []) ++ strc 128 0 7 f2) := by
            show _ = _
            rw [hB0.out, ← HL3.out]; simp only [List.append_assoc]
          clear hB0 HL3
          have hst1 := strc_le 128 0 7 f1
          have hst2 := strc_le 128 0 7 f2
          rcases Nat.eq_zero_or_pos i with hi0 | hi0
          · have HB5 : Hid (l ++ oneB E.t (f1, f2) = (l3 ++ strc 128 0 7 f1) ++ strc 128 0 7 f2) := by
              show _ = _
              rw [HB1.out, if_pos hi0]
            clear HB1
            subst hi0
            go_upto_region 12 with (first
              | (go_at_call 16
                 refine (strb_any l3 A3 c3 f1 _ hA3.out.rd (by omega) (by omega)).mono ?_
                 rintro e w4 ⟨A4, c4, rfl, hA4, hF4⟩
                 have hs3 := hF3.out.size
                 have hx7 := (HB3.out.fresh hF4).cell 0
                 have hx8 := (HB3.out.fresh hF4).cell 1
                 have hb4 : b < w4.heap.size := (HB3.out.fresh hF4).lt
                 have hpt7 := (H3.out.fresh hF4).blk.cell 0
                 have hp7 : p < w4.heap.size := (H3.out.fresh hF4).blk.lt
                 simp only [List.getElem?_toArray, List.getElem?_cons_zero, List.getElem?_cons_succ] at hx7 hx8 hpt7
                 have H4 := Lib.hid (H3.out.fresh hF4)
                 have HB4 := Lib.hid (HB3.out.fresh hF4)
                 have hA4 : Hid (App (New w) w4 5 1 A4 (l3 ++ strc 128 0 7 f1).length c4 (bvs (l3 ++ strc 128 0 7 f1))) := hA4.mono (fun k hk => Nat.le_trans hs3 hk)
                 have hF4 : Hid (Frm (New w) w w4) := hF3.out.then_new Up.new hF4
                 have hl4 : (l3 ++ strc 128 0 7 f1).length ≤ 893353197600 := by rw [List.length_append]; omega
                 have hl5 : 0 < (l3 ++ strc 128 0 7 f1).length := by rw [List.length_append]; omega
                 clear hx5 hx6 hb3 HB3 hF3 H3 hs3 hpt5 hp5 hA3
                 generalize l3 ++ strc 128 0 7 f1 = l4 at *))
            go_wp2_with (first
              | (go_at_call 16
                 refine (strb_any l4 A4 c4 f2 _ hA4.out.rd (by omega) (by omega)).mono ?_
                 rintro e w5 ⟨A5, c5, rfl, hA5, hF5⟩
                 have H5 := Lib.hid (H4.out.fresh hF5)
                 have hA5 := Lib.hid hA5
                 have hF5 := Lib.hid hF5))
            go_ret
            rw [HB5.out, hT0.out]
            have hs4 := hF4.out.size
            refine ⟨S, A5, c5, by simp, hA5.out.mono (fun k hk => Nat.le_trans hs4 hk), fun k hk c => ?_, H5.out, (hF4.out.then_new Up.new hF5.out).mono (fun k hk => .inr hk), fun k hk => .inl hk⟩
            have h1 := H4.out.tab.low k c
            have h2 := hA5.out.inM k hk
            unfold New at h2
            omega
          · have HB5 : Hid (l ++ oneB E.t (f1, f2) = l3 ++ strc 128 0 7 f2) := by
              show _ = _
              rw [HB1.out, if_neg (by omega), List.append_nil]
            clear HB1
            go_upto_region 12 with (fail)
            have H4 := H3
            have HB4 := HB3
            have hA4 := hA3
            have hF4 := hF3
            have hx7 := hx5
            have hx8 := hx6
            have hpt7 := hpt5
            have hp7 := hp5
            have hb4 := hb3
            have hl4 : l3.length ≤ 893353197600 := by omega
            have hl5 := hl30
            clear hx5 hx6 hb3 HB3 hF3 H3 hpt5 hp5 hA3
            obtain ⟨A4, c4, w4, l4, rfl, rfl, rfl, rfl⟩ : ∃ (A4 : Option Addr) (c4 : Nat) (w4 : World) (l4 : Bytes), A4 = A3 ∧ c4 = c3 ∧ w4 = w3 ∧ l4 = l3 := ⟨_, _, _, _, rfl, rfl, rfl, rfl⟩
            go_wp2_with (first
              | (go_at_call 16
                 refine (strb_any l4 A4 c4 f2 _ hA4.out.rd (by omega) (by omega)).mono ?_
                 rintro e w5 ⟨A5, c5, rfl, hA5, hF5⟩
                 have H5 := Lib.hid (H4.out.fresh hF5)
                 have hA5 := Lib.hid hA5
                 have hF5 := Lib.hid hF5))
            go_ret
            rw [HB5.out, hT0.out]
            have hs4 := hF4.out.size
            refine ⟨S, A5, c5, by simp, hA5.out.mono (fun k hk => Nat.le_trans hs4 hk), fun k hk c => ?_, H5.out, (hF4.out.then_new Up.new hF5.out).mono (fun k hk => .inr hk), fun k hk => .inl hk⟩
            have h1 := H4.out.tab.low k c
            have h2 := hA5.out.inM k hk
            unfold New at h2
            omega
        · have hB0 : Hid (oneB E.t (f1, f2) = pfx 64 6 i ++ (if i = 0 then strc 128 0 7 f1 else []) ++ strc 128 0 7 f2) := by
            show _ = _
            rw [HB0.out]
            simp only [if_neg hq, Bool.false_eq_true, if_false]
          have hT0 : Hid (oneT E.t (f1, f2) = E.t.add (f1, f2)) := by
            show _ = _
            rw [HT0.out]
            simp only [if_neg hq, Bool.false_eq_true, if_false]
          clear HB0 HT0
          go_upto_region 10 with (first
            | (go_at_call 75
               refine (prefix_nat l A c 64 6 i _ (HR.out.fresh hF2.out) (by omega) (by omega) (by omega) (by omega) (by omega)).mono ?_
               rintro e w3 ⟨A3, c3, rfl, hA3, hF3⟩
               have hx5 := (HB2.out.fresh hF3).cell 0
               have hx6 := (HB2.out.fresh hF3).cell 1
               have hb3 : b < w3.heap.size := (HB2.out.fresh hF3).lt
               have hpt5 := (H2.out.fresh hF3).blk.cell 0
               have hp5 : p < w3.heap.size := (H2.out.fresh hF3).blk.lt
               simp only [List.getElem?_toArray, List.getElem?_cons_zero, List.getElem?_cons_succ] at hx5 hx6 hpt5
               have H3 := Lib.hid (H2.out.fresh hF3)
               have HB3 := Lib.hid (HB2.out.fresh hF3)
               have hs2 := hF2.out.size
               have hA3 : Hid (App (New w) w3 5 1 A3 (l ++ pfx 64 6 i).length c3 (bvs (l ++ pfx 64 6 i))) := hA3.mono (fun k hk => Nat.le_trans hs2 hk)
               have hF3 : Hid (Frm (New w) w w3) := hF2.out.then_new Up.new hF3
               have hpl := pfx_length 64 6 i
               have hl3 : (l ++ pfx 64 6 i).length ≤ 549755813900 := by rw [List.length_append]; omega
               have hl30 : 0 < (l ++ pfx 64 6 i).length := by have := pfx_pos 64 6 i; rw [List.length_append]; omega
               clear hx3 hx4 hb2 HB2 hF2 H2 hs2
               generalize hl3e : l ++ pfx 64 6 i = l3 at *
               have HL3 := Lib.hid hl3e
               clear hl3e
               generalize pfx 64 6 i = pre at *))
          have HB1 : Hid (l ++ oneB E.t (f1, f2) = l3 ++ (if i = 0 then strc 128 0 7 f1 else []) ++ strc 128 0 7 f2) := by
            show _ = _
            rw [hB0.out, ← HL3.out]; simp only [List.append_assoc]
          clear hB0 HL3
          have hst1 := strc_le 128 0 7 f1
          have hst2 := strc_le 128 0 7 f2
          rcases Nat.eq_zero_or_pos i with hi0 | hi0
          · have HB5 : Hid (l ++ oneB E.t (f1, f2) = (l3 ++ strc 128 0 7 f1) ++ strc 128 0 7 f2) := by
              show _ = _
              rw [HB1.out, if_pos hi0]
            clear HB1
            subst hi0
            go_upto_region 12 with (first
              | (go_at_call 16
                 refine (strb_any l3 A3 c3 f1 _ hA3.out.rd (by omega) (by omega)).mono ?_
                 rintro e w4 ⟨A4, c4, rfl, hA4, hF4⟩
                 have hs3 := hF3.out.size
                 have hx7 := (HB3.out.fresh hF4).cell 0
                 have hx8 := (HB3.out.fresh hF4).cell 1
                 have hb4 : b < w4.heap.size := (HB3.out.fresh hF4).lt
                 have hpt7 := (H3.out.fresh hF4).blk.cell 0
                 have hp7 : p < w4.heap.size := (H3.out.fresh hF4).blk.lt
                 simp only [List.getElem?_toArray, List.getElem?_cons_zero, List.getElem?_cons_succ] at hx7 hx8 hpt7
                 have H4 := Lib.hid (H3.out.fresh hF4)
                 have HB4 := Lib.hid (HB3.out.fresh hF4)
                 have hA4 : Hid (App (New w) w4 5 1 A4 (l3 ++ strc 128 0 7 f1).length c4 (bvs (l3 ++ strc 128 0 7 f1))) := hA4.mono (fun k hk => Nat.le_trans hs3 hk)
                 have hF4 : Hid (Frm (New w) w w4) := hF3.out.then_new Up.new hF4
                 have hl4 : (l3 ++ strc 128 0 7 f1).length ≤ 893353197600 := by rw [List.length_append]; omega
                 have hl5 : 0 < (l3 ++ strc 128 0 7 f1).length := by rw [List.length_append]; omega
                 clear hx5 hx6 hb3 HB3 hF3 H3 hs3 hpt5 hp5 hA3
                 generalize l3 ++ strc 128 0 7 f1 = l4 at *))
            go_upto_region 13 with (fail)
            have hn4 : E.t.n < 1152921504606846976 := by rw [HN.out]; exact hn
            have hcp4 : E.t.cap ≤ 70368744177664 := by rw [HCC.out]; omega
            have hSw := H.out.tab.low
            have HSW := Lib.hid hSw
            clear hSw
            go_cut [9] from 10 (fun v9 w5 => v9 = .bool true ∧ ∃ S' : Nat → Prop, Hid (TabS S' w5 g (E.t.add (f1, f2))) ∧ Hid (Frm (Own S w4) w4 w5) ∧ Hid (∀ k, S' k → Own S w4 k))
            case first =>
              go_region_with (first
                | (go_at_call 79
                   refine (addS_any (f1, f2) _ 1 _ (H4.out.tab.fresh (by first | exact ((Frm.refl _ _).alloc Up.new _).drew | exact (Frm.refl _ _).drew.alloc Up.new _)) (by first | exact Rd.new _ #[.string ⟨f1.toArray⟩, .string ⟨f2.toArray⟩] _ | exact (Rd.new _ #[.string ⟨f1.toArray⟩, .string ⟨f2.toArray⟩] _).drew) (fun k hk c => by cases hk; have := H4.out.tab.low _ c; simp at this) hn4 (by rw [HZ2.out]; omega) hcp4).mono ?_
                   rintro e w5 ⟨⟨m, rfl⟩, S', hT5, hF5, hS5⟩
                   have hT5 := Lib.hid hT5
                   have hF5' : Hid (Frm (Own S w4) w4 w5) := Frm.trans (by first | exact ((Frm.refl _ _).alloc (Own.up S w4) _).drew | exact (Frm.refl _ _).drew.alloc (Own.up S w4) _) (hF5.mono (fun k hk => by rcases hk with hk | hk; exact .inl hk; exact .inr (by simp at hk; omega)))
                   have hS5' : Hid (∀ k, S' k → Own S w4 k) := fun k hk => by
                     rcases hS5 k hk with c | c
                     · exact .inl c
                     · exact .inr (by simp at c; omega)
                   clear hF5 hS5))
              all_goals go_wp2
              all_goals go_meet
              all_goals exact ⟨rfl, S', hT5, hF5', hS5'⟩
            case rest =>
              obtain ⟨rfl, S', hT5, hF5, hS5⟩ := hcut
              rename World => w5
              have hs4 := hF4.out.size
              have hbw := HBW.out
              have hp4 := H4.out.blk.lt
              have hpS : ¬ Own S w4 p := fun c => by
                rcases c with c | c
                · exact H4.out.out c
                · omega
              have H5 : Hid (EnAt S' w5 p g ⟨E.t.add (f1, f2), E.least⟩ ch ls) :=
                ⟨H4.out.blk.keep hF5.out hpS, hT5.out, fun c => hpS (hS5.out p c), H4.out.ok.add _, by rw [Tb.add_cap]; exact H4.out.cap, H4.out.lst, H4.out.lle⟩
              have hbS : ¬ Own S w4 b := fun c => by
                rcases c with c | c
                · have := HSW.out b c; omega
                · omega
              have hx9 := (hF5.out.cell (p := ⟨b, 1, none⟩) hbS).trans hx8
              have hb5 : b < w5.heap.size := Nat.lt_of_lt_of_le hb4 hF5.out.size
              have hR5 : Hid (Rd w5 A4 (bvs l4)) := hA4.out.rd.keep hF5.out (fun k hk c => by
                have h1 := hA4.out.inM k hk
                rcases c with c | c
                · have := HSW.out k c
                  unfold New at h1
                  omega
                · obtain ⟨g0, off, e0, h0⟩ := hA4.out.rd.lt (by intro e0; cases l4 with | nil => simp at hl5 | cons x y => cases e0)
                  rw [e0] at hk
                  have hk2 : g0 = k := by simpa using hk
                  omega)
              clear hx7 hx8 hpt7 hp7 hb4
              go_wp2_with (first
                | (go_at_call 16
                   refine (strb_any l4 A4 c4 f2 _ hR5.out (by omega) (by omega)).mono ?_
                   rintro e w6 ⟨A6, c6, rfl, hA6, hF6⟩
                   have H6 := Lib.hid (H5.out.fresh hF6)
                   have hA6 := Lib.hid hA6
                   have hF6 := Lib.hid hF6))
              go_ret
              rw [HB5.out, hT0.out]
              have hs5 := hF5.out.size
              refine ⟨S', A6, c6, by simp, hA6.out.mono (fun k hk => Nat.le_trans (Nat.le_trans hs4 hs5) hk), fun k hk c => ?_, H6.out, ?_, fun k hk => ?_⟩
              · have h1 := H5.out.tab.low k c
                have h2 := hA6.out.inM k hk
                unfold New at h2
                omega
              · refine ((hF4.out.mono (fun k hk => .inr hk)).trans (hF5.out.mono (fun k hk => ?_))).trans (hF6.out.mono (fun k hk => .inr (Nat.le_trans (Nat.le_trans hs4 hs5) hk)))
                rcases hk with c | c
                · exact .inl c
                · exact .inr (Nat.le_trans hs4 c)
              · rcases hS5.out k hk with c | c
                · exact .inl c
                · exact .inr (Nat.le_trans hs4 c)
          · have HB5 : Hid (l ++ oneB E.t (f1, f2) = l3 ++ strc 128 0 7 f2) := by
              show _ = _
              rw [HB1.out, if_neg (by omega), List.append_nil]
            clear HB1
            go_upto_region 12 with (fail)
            have H4 := H3
            have HB4 := HB3
            have hA4 := hA3
            have hF4 := hF3
            have hx7 := hx5
            have hx8 := hx6
            have hpt7 := hpt5
            have hp7 := hp5
            have hb4 := hb3
            have hl4 : l3.length ≤ 893353197600 := by omega
            have hl5 := hl30
            clear hx5 hx6 hb3 HB3 hF3 H3 hpt5 hp5 hA3
            obtain ⟨A4, c4, w4, l4, rfl, rfl, rfl, rfl⟩ : ∃ (A4 : Option Addr) (c4 : Nat) (w4 : World) (l4 : Bytes), A4 = A3 ∧ c4 = c3 ∧ w4 = w3 ∧ l4 = l3 := ⟨_, _, _, _, rfl, rfl, rfl, rfl⟩
            go_upto_region 13 with (fail)
            have hn4 : E.t.n < 1152921504606846976 := by rw [HN.out]; exact hn
            have hcp4 : E.t.cap ≤ 70368744177664 := by rw [HCC.out]; omega
            have hSw := H.out.tab.low
            have HSW := Lib.hid hSw
            clear hSw
            go_cut [9] from 10 (fun v9 w5 => v9 = .bool true ∧ ∃ S' : Nat → Prop, Hid (TabS S' w5 g (E.t.add (f1, f2))) ∧ Hid (Frm (Own S w4) w4 w5) ∧ Hid (∀ k, S' k → Own S w4 k))
            case first =>
              go_region_with (first
                | (go_at_call 79
                   refine (addS_any (f1, f2) _ 1 _ (H4.out.tab.fresh (by first | exact ((Frm.refl _ _).alloc Up.new _).drew | exact (Frm.refl _ _).drew.alloc Up.new _)) (by first | exact Rd.new _ #[.string ⟨f1.toArray⟩, .string ⟨f2.toArray⟩] _ | exact (Rd.new _ #[.string ⟨f1.toArray⟩, .string ⟨f2.toArray⟩] _).drew) (fun k hk c => by cases hk; have := H4.out.tab.low _ c; simp at this) hn4 (by rw [HZ2.out]; omega) hcp4).mono ?_
                   rintro e w5 ⟨⟨m, rfl⟩, S', hT5, hF5, hS5⟩
                   have hT5 := Lib.hid hT5
                   have hF5' : Hid (Frm (Own S w4) w4 w5) := Frm.trans (by first | exact ((Frm.refl _ _).alloc (Own.up S w4) _).drew | exact (Frm.refl _ _).drew.alloc (Own.up S w4) _) (hF5.mono (fun k hk => by rcases hk with hk | hk; exact .inl hk; exact .inr (by simp at hk; omega)))
                   have hS5' : Hid (∀ k, S' k → Own S w4 k) := fun k hk => by
                     rcases hS5 k hk with c | c
                     · exact .inl c
                     · exact .inr (by simp at c; omega)
                   clear hF5 hS5))
              all_goals go_wp2
              all_goals go_meet
              all_goals exact ⟨rfl, S', hT5, hF5', hS5'⟩
            case rest =>
              obtain ⟨rfl, S', hT5, hF5, hS5⟩ := hcut
              rename World => w5
              have hs4 := hF4.out.size
              have hbw := HBW.out
              have hp4 := H4.out.blk.lt
              have hpS : ¬ Own S w4 p := fun c => by
                rcases c with c | c
                · exact H4.out.out c
                · omega
              have H5 : Hid (EnAt S' w5 p g ⟨E.t.add (f1, f2), E.least⟩ ch ls) :=
                ⟨H4.out.blk.keep hF5.out hpS, hT5.out, fun c => hpS (hS5.out p c), H4.out.ok.add _, by rw [Tb.add_cap]; exact H4.out.cap, H4.out.lst, H4.out.lle⟩
              have hbS : ¬ Own S w4 b := fun c => by
                rcases c with c | c
                · have := HSW.out b c; omega
                · omega
              have hx9 := (hF5.out.cell (p := ⟨b, 1, none⟩) hbS).trans hx8
              have hb5 : b < w5.heap.size := Nat.lt_of_lt_of_le hb4 hF5.out.size
              have hR5 : Hid (Rd w5 A4 (bvs l4)) := hA4.out.rd.keep hF5.out (fun k hk c => by
                have h1 := hA4.out.inM k hk
                rcases c with c | c
                · have := HSW.out k c
                  unfold New at h1
                  omega
                · obtain ⟨g0, off, e0, h0⟩ := hA4.out.rd.lt (by intro e0; cases l4 with | nil => simp at hl5 | cons x y => cases e0)
                  rw [e0] at hk
                  have hk2 : g0 = k := by simpa using hk
                  omega)
              clear hx7 hx8 hpt7 hp7 hb4
              go_wp2_with (first
                | (go_at_call 16
                   refine (strb_any l4 A4 c4 f2 _ hR5.out (by omega) (by omega)).mono ?_
                   rintro e w6 ⟨A6, c6, rfl, hA6, hF6⟩
                   have H6 := Lib.hid (H5.out.fresh hF6)
                   have hA6 := Lib.hid hA6
                   have hF6 := Lib.hid hF6))
              go_ret
              rw [HB5.out, hT0.out]
              have hs5 := hF5.out.size
              refine ⟨S', A6, c6, by simp, hA6.out.mono (fun k hk => Nat.le_trans (Nat.le_trans hs4 hs5) hk), fun k hk c => ?_, H6.out, ?_, fun k hk => ?_⟩
              · have h1 := H5.out.tab.low k c
                have h2 := hA6.out.inM k hk
                unfold New at h2
                omega
              · refine ((hF4.out.mono (fun k hk => .inr hk)).trans (hF5.out.mono (fun k hk => ?_))).trans (hF6.out.mono (fun k hk => .inr (Nat.le_trans (Nat.le_trans hs4 hs5) hk)))
                rcases hk with c | c
                · exact .inl c
                · exact .inr (Nat.le_trans hs4 c)
              · rcases hS5.out k hk with c | c
                · exact .inl c
                · exact .inr (Nat.le_trans hs4 c)
end Go.Proofs.Ytcebckkpablagaa.M
