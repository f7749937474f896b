/- bifoldlaw6.known holds. No condition. -/
import Derived.BigQuiet
import Derived.Test.YtcebckkpablagaaHdd
import Derived.Test.YtcebckkpablagaaFeq
import Derived.Test.YtcebckkpablagaaHstr
namespace Go.Proofs.Ytcebckkpablagaa.M
open Go.ChangeShapes Go.WideShapes Go.ChangeAt Go.RowKit

def k6D : De := ⟨⟨[], 0, 4096⟩, 4096, false, false⟩
def k6T : Tb := ⟨[([97], [98])], 1, 4096⟩
def k6F : List Fld := [([58, 109, 101, 116, 104, 111, 100], [71, 69, 84]), ([97], [98])]
theorem k6_1 : k6D.run [130, 64, 1, 97, 1, 98] = some (k6F, k6T) := by kernel_rfl
theorem k6_2 : (De.mk k6T 4096 false false).run [190] = some ([([97], [98])], k6T) := by kernel_rfl
theorem k6_3 : (De.mk k6T 4096 false false).run [128] = none := by kernel_rfl
theorem k6_4 (D : De) (h : D.bad = true) (b : Bytes) : D.run b = none := by unfold De.run; rw [if_pos h]
theorem k6_s : strD [1, 120, 121] 7 = ([120], 2, 0) := by kernel_rfl
theorem k6_l : lim 4096 = 4096 := rfl

/-- a decoder that the call itself made -/
structure KSt (w0 w : World) (S : Nat → Prop) (pd g : Nat) (D : De) : Prop where
  de : HDeAt S w pd g D
  frm : Frm (New w0) w0 w
  low : ∀ k, S k → w0.heap.size ≤ k
  pw : w0.heap.size ≤ pd
theorem KSt.fresh {w0 w w' : World} {S : Nat → Prop} {pd g : Nat} {D : De} (h : KSt w0 w S pd g D) (f : Frm (New w) w w') : KSt w0 w' S pd g D :=
  ⟨h.de.fresh f, h.frm.then_new Up.new f, h.low, h.pw⟩
/-- cells that the decoder's calls leave alone -/
structure KKept (w : World) (S : Nat → Prop) (pd : Nat) (A : Option Addr) (xs : List Value) : Prop where
  rd : Rd w A xs
  far : ∀ k, blk A = some k → k ≠ pd ∧ ¬ S k ∧ k < w.heap.size
theorem KKept.keep {w w' : World} {S S' : Nat → Prop} {pd : Nat} {A : Option Addr} {xs : List Value} (h : KKept w S pd A xs) (f : Frm (fun k => k = pd ∨ Own S w k) w w') (hs : ∀ k, S' k → Own S w k) : KKept w' S' pd A xs := by
  have hz := f.size
  refine ⟨h.rd.keep f (fun k hk q => ?_), fun k hk => ⟨(h.far k hk).1, fun q => ?_, Nat.lt_of_lt_of_le (h.far k hk).2.2 hz⟩⟩
  · have h1 := h.far k hk
    rcases q with q | q | q
    · exact h1.1 q
    · exact h1.2.1 q
    · omega
  · have h1 := h.far k hk
    rcases hs k q with q | q
    · exact h1.2.1 q
    · omega
theorem KKept.fresh {w w' : World} {S : Nat → Prop} {pd : Nat} {A : Option Addr} {xs : List Value} (h : KKept w S pd A xs) (f : Frm (New w) w w') : KKept w' S pd A xs :=
  ⟨h.rd.fresh f, fun k hk => ⟨(h.far k hk).1, (h.far k hk).2.1, Nat.lt_of_lt_of_le (h.far k hk).2.2 f.size⟩⟩
/-- what Decode leaves of it -/
def KRes (w0 w : World) (S : Nat → Prop) (pd g : Nat) (D : De) (o : Option (List Fld × Tb)) (e : Ending) (w' : World) : Prop :=
  match o with
  | some (l, T) => ∃ S' A c, KSt w0 w' S' pd g ⟨T, D.max, false, false⟩ ∧ e = .returned (.tuple #[.slice A l.length c, .int .i64 0]) ∧ (l ≠ [] → KKept w' S' pd A (fvs l)) ∧ Frm (fun k => k = pd ∨ Own S w k) w w' ∧ ∀ k, S' k → Own S w k
  | none => ∃ S' D', KSt w0 w' S' pd g D' ∧ e = .returned (.tuple #[.slice none 0 0, .int .i64 26]) ∧ D'.bad = true ∧ Frm (fun k => k = pd ∨ Own S w k) w w' ∧ ∀ k, S' k → Own S w k
theorem kdec {w0 w : World} {S : Nat → Prop} {pd g : Nat} {D : De} (h : KSt w0 w S pd g D) (b : Bytes) (A : Option Addr) (c : Nat) (hR : Rd w A (bvs b)) (hc : b.length ≤ c) (hfar : ∀ k, blk A = some k → k ≠ pd ∧ ¬ S k ∧ k < w.heap.size) (hl : b.length ≤ 1099511627776) (hn : D.bad = false → D.t.n + b.length ≤ 1152921504606846975) :
    Calls Try.prog 36 #[.pointer (some ⟨pd, 0, none⟩), .slice A b.length c] w (KRes w0 w S pd g D (D.run b)) := by
  refine (hdecoder_any b A c w h.de hR hc hfar hl hn).mono ?_
  rintro e w' ⟨S', D', h1, h2, h3, h4⟩
  have hs := h.frm.size
  have hk : KSt w0 w' S' pd g D' := ⟨h1, h.frm.trans (h2.mono (fun k hk => by
    rcases hk with hk | hk | hk
    · rw [hk]; exact h.pw
    · exact h.low k hk
    · exact Nat.le_trans hs hk)), fun k hk => by
      rcases h3 k hk with q | q
      · exact h.low k q
      · exact Nat.le_trans hs q, h.pw⟩
  cases hr : D.run b with
  | none => rw [hr] at h4; exact ⟨S', D', hk, h4.1, h4.2, h2, h3⟩
  | some q =>
    obtain ⟨l, T⟩ := q
    rw [hr] at h4
    obtain ⟨A1, c1, q1, q2, q3, q4⟩ := h4
    rw [q4] at hk
    refine ⟨S', A1, c1, hk, q1, fun hne => ⟨q2.rd, fun k hk => ⟨?_, q3 k hk, ?_⟩⟩, h2, h3⟩
    · have h5 := q2.inM k hk
      have h6 := h.de.blk.lt
      unfold New at h5
      omega
    · obtain ⟨g9, o9, e9, l9⟩ := q2.rd.lt (by intro c; have := congrArg List.length c; rw [fvs_length] at this; simp at this; exact hne (List.eq_nil_of_length_eq_zero (by omega)))
      rw [e9] at hk
      have hk2 : g9 = k := by simpa using hk
      omega
/-- a block that the call itself made -/
theorem kdec2 {w0 w : World} {S : Nat → Prop} {pd g : Nat} {D : De} (h : KSt w0 w S pd g D) (b : Bytes) (arr : Array Value) (ha : (bvs b).toArray = arr) (hl : b.length ≤ 1099511627776) (hn : D.bad = false → D.t.n + b.length ≤ 1152921504606846975) (n : Nat) (hb : b.length = n) :
    Calls Try.prog 36 #[.pointer (some ⟨pd, 0, none⟩), .slice (some ⟨w.heap.size, 0, none⟩) n n] (w.alloc (Obj.cells arr 5)) (KRes w0 (w.alloc (Obj.cells arr 5)) S pd g D (D.run b)) := by
  subst hb ha
  have hF : Frm (New w) w (w.alloc (Obj.cells (bvs b).toArray 5)) := (Frm.refl _ _).alloc Up.new _
  refine kdec (h.fresh hF) b _ _ (Rd.new w (bvs b).toArray 5) (Nat.le_refl _) (fun k hk => ?_) hl hn
  have hk2 : w.heap.size = k := by simpa using hk
  subst hk2
  exact ⟨by have := h.de.blk.lt; omega, fun c => by have := h.de.tab.low _ c; omega, by simp⟩

set_option maxRecDepth 100000 in
set_option maxHeartbeats 4000000 in
theorem known6_any (w : World) : Calls Try.prog 34 #[] w fun e w' => e = .returned (.bool true) ∧ Frm (New w) w w' := by
  go_enter Try.func34, Try.ntmps34
  go_wp2_with (fail)
  refine (hdnew_any 4096 (by omega) (by omega) w).mono ?_
  rintro e w1 ⟨S, p, g, rfl, hE1, hF1, hS1, hp1⟩
  have hK1 : KSt w w1 S p g k6D := ⟨hE1, hF1, hS1, hp1⟩
  have HK1 := Lib.hid hK1
  clear hK1
  clear hE1 hF1 hS1 hp1
  go_wp2_with (fail)
  have hd := kdec2 HK1.out [130, 64, 1, 97, 1, 98] #[.int .u8 130, .int .u8 64, .int .u8 1, .int .u8 97, .int .u8 1, .int .u8 98] rfl (by simp) (fun _ => by decide) 6 rfl
  rw [k6_1] at hd
  refine hd.mono ?_
  rintro e w2 ⟨S2, A2, c2, hK2, rfl, hA2, _, _⟩
  replace hA2 := hA2 (by decide)
  rw [show k6F.length = 2 from rfl]
  have HK2 := Lib.hid hK2
  have HA2 := Lib.hid hA2
  have HD := Lib.hid hd
  clear hK2 hA2 hd
  go_wp2_with (fail)
  have hd := kdec2 HK2.out [190] #[.int .u8 190] rfl (by simp) (fun _ => by decide) 1 rfl
  rw [show (De.mk k6T k6D.max false false) = De.mk k6T 4096 false false from rfl, k6_2] at hd
  refine hd.mono ?_
  rintro e w3 ⟨S3, A3, c3, hK3, rfl, hA3, f3, s3⟩
  replace hA3 := hA3 (by decide)
  have hA23 := (HA2.out.fresh ((Frm.refl _ _).alloc Up.new _)).keep f3 s3
  rw [show [(([97] : Bytes), ([98] : Bytes))].length = 1 from rfl]
  have HK3 := Lib.hid hK3
  have HA3 := Lib.hid hA3
  have HA23 := Lib.hid hA23
  have HD := Lib.hid hd
  have F3 := Lib.hid f3
  have S3 := Lib.hid s3
  clear hK3 hA3 hA23 hd f3 s3
  go_wp2_with (fail)
  have hd := kdec2 HK3.out [128] #[.int .u8 128] rfl (by simp) (fun _ => by decide) 1 rfl
  rw [show (De.mk k6T (De.mk k6T 4096 false false).max false false) = De.mk k6T 4096 false false from rfl, k6_3] at hd
  refine hd.mono ?_
  rintro e w4 ⟨S4, D4, hK4, rfl, hbad4, f4, s4⟩
  have hA24 := (HA23.out.fresh ((Frm.refl _ _).alloc Up.new _)).keep f4 s4
  have hA34 := (HA3.out.fresh ((Frm.refl _ _).alloc Up.new _)).keep f4 s4
  have HK4 := Lib.hid hK4
  have HA24 := Lib.hid hA24
  have HA34 := Lib.hid hA34
  have HD := Lib.hid hd
  have F4 := Lib.hid f4
  have S4 := Lib.hid s4
  have HBAD4 := Lib.hid hbad4
  clear hK4 hA24 hA34 hd f4 s4 hbad4
  go_wp2_with (fail)
  have hd := kdec2 HK4.out [130] #[.int .u8 130] rfl (by simp) (fun q => by rw [HBAD4.out] at q; cases q) 1 rfl
  rw [k6_4 D4 HBAD4.out] at hd
  refine hd.mono ?_
  rintro e w5 ⟨S5, D5, hK5, rfl, hbad5, f5, s5⟩
  have hA25 := (HA24.out.fresh ((Frm.refl _ _).alloc Up.new _)).keep f5 s5
  have hA35 := (HA34.out.fresh ((Frm.refl _ _).alloc Up.new _)).keep f5 s5
  have HK5 := Lib.hid hK5
  have HA25 := Lib.hid hA25
  have HA35 := Lib.hid hA35
  have HD := Lib.hid hd
  have F5 := Lib.hid f5
  have S5 := Lib.hid s5
  have HBAD5 := Lib.hid hbad5
  clear hK5 hA25 hA35 hd f5 s5 hbad5
  go_wp2_with (fail)
  have hf6 : Frm (New w5) w5 (w5.alloc (Obj.cells #[.int .u8 1, .int .u8 120, .int .u8 121] 5)) := (Frm.refl _ _).alloc Up.new _
  have hst := hstr_any [1, 120, 121] (some ⟨w5.heap.size, 0, none⟩) 3 (w5.alloc (Obj.cells #[.int .u8 1, .int .u8 120, .int .u8 121] 5)) (Rd.new w5 #[.int .u8 1, .int .u8 120, .int .u8 121] 5) (by simp) (by simp)
  rw [k6_s] at hst
  refine hst.mono ?_
  rintro e w6 ⟨he6, f6⟩
  have he7 : e = .returned (.tuple #[.string ⟨#[120]⟩, .int .i64 2, .int .i64 0]) := he6
  subst he7
  clear he6
  have hA26 := (HA25.out.fresh hf6).fresh f6
  have hA36 := (HA35.out.fresh hf6).fresh f6
  have hK6 := (HK5.out.fresh hf6).fresh f6
  have hm1 := hA36.rd.at_ (k := 1) (by decide)
  have hm0 := hA36.rd.at_ (k := 0) (by decide)
  have HA26 := Lib.hid hA26
  have HA36 := Lib.hid hA36
  have HK6 := Lib.hid hK6
  have HST := Lib.hid hst
  have F6 := Lib.hid f6
  have HF6 := Lib.hid hf6
  clear hA26 hA36 hK6 hst f6 hf6
  obtain ⟨gb, off, rfl, hm0⟩ := hm0
  obtain ⟨gb2, off2, hgb, hm1⟩ := hm1
  injection hgb with hgb
  injection hgb with e1 e2
  subst e1 e2
  have hgb := World.block_lt_of_cell? _ _ hm0
  have hm0' : w6.cell? ⟨gb, off, none⟩ = some (.string ⟨#[97]⟩) := by simpa [fvs, str] using hm0
  have hm1' : w6.cell? ⟨gb, off + 1, none⟩ = some (.string ⟨#[98]⟩) := by simpa [fvs, str] using hm1
  clear hm0 hm1
  have hm1 := hm1'
  clear hm0' hm1'
  go_wp2_with (first
    | (refine wpList_val rfl _ (build_fld rfl) ?_)
    | (go_at_call 31
       refine (fields_eq k6F _ _ _ 2 _ (HA26.out.rd.fresh ((Frm.refl _ _).alloc Up.new _)) (Rd.new _ (fvs k6F).toArray _) (by decide)).mono ?_
       rintro e w7 ⟨rfl, n7, hw7⟩
       rw [hw7]
       clear hw7))
  go_ret
  exact ⟨rfl, (HK6.out.frm.then_new Up.new ((Frm.refl _ _).alloc Up.new _)).drewN n7⟩
end Go.Proofs.Ytcebckkpablagaa.M
