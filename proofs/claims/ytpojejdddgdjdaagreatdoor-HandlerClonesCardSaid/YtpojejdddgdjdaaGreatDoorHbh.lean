/- The document's kv: what it leaves of the store. Bodies, keys below 2^40. -/
import Derived.BigQuiet
import Derived.Deep.CutBlock
import Derived.Lib.Hide
import Derived.IntWalk
import Derived.Test.YtpojejdddgdjdaaGreatDoorHba
import Derived.Test.YtpojejdddgdjdaaGreatDoorReg
import Derived.Test.YtpojejdddgdjdaaGreatDoorCut
namespace Go.Proofs.YtpojejdddgdjdaaGreatDoor.M
open Go.ChangeShapes Go.WideShapes Go.ChangeAt Go.RowKit
theorem App.cutk {M : Nat → Prop} {w : World} {e size n c : Nat} {A : Option Addr} {xs : List Value} (h : App M w e size A n c xs) (k : Nat) (hk : k ≤ n) : App M w e size A k k (xs.take (k * size)) := by
  have hc := h.cap
  have hm := h.max
  refine ⟨?_, Nat.le_refl _, by omega, fun hA => by have := h.nil_ hA; omega, h.rd.take _, h.inM, fun h0 => ?_⟩
  · rw [List.length_take, h.len]
    exact Nat.min_eq_left (Nat.mul_le_mul_right _ hk)
  · obtain ⟨g, off, cur, h1, h2, h3, h4⟩ := h.own (by omega)
    have : k * size ≤ c * size := Nat.mul_le_mul_right _ (by omega)
    exact ⟨g, off, cur, h1, h2, by omega, h4⟩
theorem pcl_drop (L : List (Bytes × SV)) : ∀ k, (L.drop k).flatMap pcl = (L.flatMap pcl).drop (k * 2) := by
  induction L with
  | nil => intro k; simp
  | cons f r ih =>
    intro k
    cases k with
    | zero => simp
    | succ k =>
      rw [List.drop_succ_cons, ih k]
      show _ = List.drop ((k + 1) * 2) (str f.1 :: f.2.v :: r.flatMap pcl)
      rw [show (k + 1) * 2 = k * 2 + 1 + 1 by omega, List.drop_succ_cons, List.drop_succ_cons]
theorem pcl_take (L : List (Bytes × SV)) (k : Nat) : (L.take k).flatMap pcl = (L.flatMap pcl).take (k * 2) := by
  have h : L.flatMap pcl = (L.take k).flatMap pcl ++ (L.drop k).flatMap pcl := by rw [← List.flatMap_append, List.take_append_drop]
  have h2 : (L.flatMap pcl).take (k * 2) ++ (L.flatMap pcl).drop (k * 2) = (L.take k).flatMap pcl ++ (L.flatMap pcl).drop (k * 2) := by
    rw [List.take_append_drop, ← pcl_drop, ← h]
  exact (List.append_cancel_right h2).symm
theorem cells_keep {M : Nat → Prop} {w w' : World} (f : Frm M w w') {k : Nat} (hk : ¬ M k) (h : ∃ cs t f, w.heap[k]? = some (.cells cs t f)) : ∃ cs t f, w'.heap[k]? = some (.cells cs t f) := by
  obtain ⟨cs, t, g, h⟩ := h
  exact ⟨cs, t, g, by rw [f.block k hk]; exact h⟩
theorem cells_lt {w : World} {k : Nat} (h : ∃ cs t f, w.heap[k]? = some (.cells cs t f)) : k < w.heap.size := by
  obtain ⟨cs, t, g, h⟩ := h
  exact (Array.getElem?_eq_some_iff.1 h).1
theorem RAt.keep {M : Nat → Prop} {w w' : World} {p c : Nat} {A : Option Addr} {L : List (Bytes × SV)} (h : RAt w p A c L) (f : Frm M w w') (hp : ¬ M p) (hA : Far M A) (hv : ∀ x ∈ L, bvs x.2.b ≠ [] → Far M x.2.A) : RAt w' p A c L :=
  ⟨h.blk.keep f hp, (h.app.keep f hA).self.mono (fun _ hq => hq), h.far, fun x hx => (h.val x hx).keep2 f (hv x hx), h.vfar, h.nd, h.len, h.small, h.klen, fun k hk => cells_keep f (hA k hk) (h.row k hk)⟩
theorem RAt.fresh {w w' : World} {p c : Nat} {A : Option Addr} {L : List (Bytes × SV)} (h : RAt w p A c L) (f : Frm (New w) w w') : RAt w' p A c L :=
  h.keep f (by have := h.blk.lt; unfold New; omega) (fun k hk e => by have := cells_lt (h.row k hk); unfold New at e; omega) (fun x hx hn k hk e => by have := (h.val x hx).blk_lt hn hk; unfold New at e; omega)
/-- the row behind a store -/
theorem RAt.store {w0 w w6 : World} {p c : Nat} {A : Option Addr} {L : List (Bytes × SV)} (h : RAt w p A c L) (h0 : p < w0.heap.size) (f : Frm (New w) w w6) {N : Nat → Prop} {A6 : Option Addr} {c6 : Nat} {L6 : List (Bytes × SV)} (hA : App N w6 90 2 A6 L6.length c6 (L6.flatMap pcl))
    (hd : M.blk A6 = M.blk A ∨ (0 < L6.length ∧ ∀ k, M.blk A6 = some k → w.heap.size ≤ k))
    (hv : ∀ x ∈ L6, x ∈ L ∨ (Rd w6 x.2.A (bvs x.2.b) ∧ (bvs x.2.b ≠ [] → ∀ k, M.blk x.2.A = some k → w0.heap.size ≤ k) ∧ x.2.b.length ≤ 1099511627776 ∧ x.1.length ≤ 32)) (hs : Srt L6) (hl : L6.length ≤ 64) :
    RAt (w6.setCell ⟨p, 0, none⟩ (.slice A6 L6.length c6)) p A6 c6 L6 ∧ Frm (fun z => z = p ∨ New w z) w (w6.setCell ⟨p, 0, none⟩ (.slice A6 L6.length c6)) ∧ Olds w0 L L6 := by
  have hpl := h.blk.lt
  have hset : Frm (fun q => q = p) w6 (w6.setCell ⟨p, 0, none⟩ (.slice A6 L6.length c6)) := Frm.setCell (M := fun q => q = p) (Frm.refl _ w6) (p := ⟨p, 0, none⟩) rfl _
  have hfar : M.blk A6 ≠ some p := fun e => by
    rcases hd with h1 | ⟨_, h1⟩
    · exact h.far (h1.symm.trans e)
    · have := h1 p e; omega
  have hvf : ∀ x ∈ L6, Rd w6 x.2.A (bvs x.2.b) ∧ (bvs x.2.b ≠ [] → M.blk x.2.A ≠ some p) := fun x hx => by
    rcases hv x hx with h1 | ⟨h1, h2, _, _⟩
    · exact ⟨(h.val x h1).fresh f, h.vfar x h1⟩
    · exact ⟨h1, fun hn e => by have := h2 hn p e; omega⟩
  have hb := (h.blk.fresh f).set_ 0 (.slice A6 L6.length c6)
  simp only [List.setIfInBounds_toArray, List.set_cons_zero] at hb
  refine ⟨⟨hb, (hA.keep hset (fun k hk e => hfar (by rw [hk, e]))).self, hfar, fun x hx => (hvf x hx).1.keep2 hset (fun hn k hk e => (hvf x hx).2 hn (by rw [hk, e])), fun x hx => (hvf x hx).2, hs, hl, fun x hx => ?_, fun x hx => ?_, fun k hk => cells_keep hset (fun e => hfar (by rw [hk, e])) ?_⟩, (f.mono (fun k hk => .inr hk)).trans (hset.mono (fun k hk => .inl hk)), fun x hx hn z hz => ?_⟩
  · rcases hv x hx with h1 | ⟨_, _, h1, _⟩
    · exact h.small x h1
    · exact h1
  · rcases hv x hx with h1 | ⟨_, _, _, h1⟩
    · exact h.klen x h1
    · exact h1
  · rcases hd with h1 | ⟨h0, _⟩
    · have h2 := h.row k (h1.symm.trans hk)
      exact cells_keep f (by have := cells_lt h2; unfold New; omega) h2
    · have := hA.cap
      obtain ⟨g, off, cur, rfl, hg, _⟩ := hA.own (by omega)
      cases hk
      exact ⟨_, _, _, hg⟩
  · rcases hv x hx with h1 | ⟨_, h2, _, _⟩
    · exact .inl h1
    · exact .inr (h2 hn z hz)
/-- some message, and the row behind it -/
def RSR (w : World) (p : Nat) (A : Option Addr) (L : List (Bytes × SV)) (T : Sto) (e : Ending) (w' : World) : Prop := ∃ (A1 A2 A3 : Option Addr) (n1 n2 n3 c1 c2 c3 : Nat) (A' : Option Addr) (c' : Nat) (L' : List (Bytes × SV)), e = .returned (.agg #[.slice A1 n1 c1, .slice A2 n2 c2, .slice A3 n3 c3]) ∧ RAt w' p A' c' L' ∧ sto L' = T ∧ Frm (fun z => z = p ∨ New w z) w w' ∧ Olds w L L' ∧ (M.blk A' = M.blk A ∨ ∀ k, M.blk A' = some k → w.heap.size ≤ k)
theorem RSR.same {w w' : World} {p c : Nat} {A : Option Addr} {L : List (Bytes × SV)} {T : Sto} {A1 A2 A3 : Option Addr} {n1 n2 n3 c1 c2 c3 : Nat} (h : RAt w p A c L) (f : Frm (New w) w w') (hT : T = sto L) : RSR w p A L T (.returned (.agg #[.slice A1 n1 c1, .slice A2 n2 c2, .slice A3 n3 c3])) w' :=
  ⟨_, _, _, _, _, _, _, _, _, A, c, L, rfl, h.fresh f, hT.symm, f.mono (fun _ hk => .inr hk), fun _ hx _ _ _ => .inl hx, .inl rfl⟩
theorem Frm.newg {w w2 w3 w4 : World} {g : Nat} (f : Frm (New w) w w2) (f3 : Frm (New w2) w2 w3) (hg : w.heap.size ≤ g) (F : Frm (· = g) w3 w4) : Frm (New w) w w4 := (f.then_new Up.new f3).trans (F.mono (fun k hk => by subst hk; exact hg))
theorem RSR.done {w w8 w7 w9 w10 : World} {p c g : Nat} {A : Option Addr} {L : List (Bytes × SV)} {T : Sto} {A1 A2 A3 : Option Addr} {n1 n2 n3 c1 c2 c3 : Nat} {A6 : Option Addr} {c6 : Nat} {L6 : List (Bytes × SV)}
    (h : RAt w p A c L) (f : Frm (New w) w w8) (hg : w.heap.size ≤ g) (hgl : g < w8.heap.size) (h7 : RAt w7 p A6 c6 L6) (F7 : Frm (fun z => z = p ∨ New w8 z) w8 w7) (ho : Olds w8 L L6)
    (hd : M.blk A6 = M.blk A ∨ (∀ k, M.blk A6 = some k → w8.heap.size ≤ k)) (F9 : Frm (New w7) w7 w9) (F10 : Frm (· = g) w9 w10) (hT : sto L6 = T) :
    RSR w p A L T (.returned (.agg #[.slice A1 n1 c1, .slice A2 n2 c2, .slice A3 n3 c3])) w10 := by
  have hs := f.size
  have hpl := h.blk.lt
  refine ⟨_, _, _, _, _, _, _, _, _, A6, c6, L6, rfl, (h7.fresh F9).keep F10 (fun e => by have e2 : p = g := e; omega) (fun k hk e => ?_) (fun x hx hn k hk e => ?_), hT, ((f.mono (fun k hk => .inr hk)).trans (F7.mono (fun k hk => by rcases hk with hk | hk; exact .inl hk; exact .inr (by unfold New at hk ⊢; omega)))).trans ((F9.mono (fun k hk => .inr (by have := F7.size; unfold New at hk ⊢; omega))).trans (F10.mono (fun k hk => by subst hk; exact .inr hg))), fun x hx hn z hz => ?_, hd.imp id (fun h1 k hk => Nat.le_trans hs (h1 k hk))⟩
  · have e2 : k = g := e
    rcases hd with h1 | h1
    · have := cells_lt (h.row k (h1.symm.trans hk)); omega
    · have := h1 k hk; omega
  · have e2 : k = g := e
    rcases ho x hx hn k hk with h1 | h1
    · have := (h.val x h1).blk_lt hn hk; omega
    · omega
  · rcases ho x hx hn z hz with h1 | h1
    · exact .inl h1
    · exact .inr (by omega)
theorem App.to {M M' : Nat → Prop} {w : World} {e size n c : Nat} {A : Option Addr} {xs : List Value} (h : App M w e size A n c xs) (hb : ∀ k, Go.Proofs.YtpojejdddgdjdaaGreatDoor.M.blk A = some k → M' k) : App M' w e size A n c xs :=
  { h with
    inM := hb
    own := fun h0 => by
      obtain ⟨g, off, cur, rfl, b, d, _⟩ := h.own h0
      exact ⟨g, off, cur, rfl, b, d, hb g rfl⟩ }
theorem zPr : (Tryz.prog.info? 90).map (·.zero) = some (some (.agg #[.string ByteArray.empty, .slice none 0 0])) := by kernel_rfl
theorem pr_one (s : ByteArray) (A : Option Addr) (n c : Nat) : ∀ u ∈ (#[.string s, .slice A n c] : Array Value).toList, u.oneCell' = true := fun u hu => by
  simp at hu
  rcases hu with rfl | rfl <;> rfl
theorem agP : Agg Tryz.prog 90 2 := ⟨⟨_, Tryz.underlying90, rfl⟩, by kernel_rfl⟩
set_option maxRecDepth 100000 in
set_option maxHeartbeats 4000000 in
theorem rkv_any (r : RV) (x : Bytes) (w : World) (p c : Nat) (A : Option Addr) (L : List (Bytes × SV)) (hK : RAt w p A c L) (hr : Rd w r.A2 (bvs r.b)) (hl2 : r.b.length ≤ 1099511627776) (hxl : x.length ≤ 1099511627776) :
    Calls Tryz.prog 37 #[.pointer (some ⟨p, 0, none⟩), .agg r.cells, .string ⟨x.toArray⟩] w (RSR w p A L (rkv (sto L) r.me r.b x)) := by
  obtain ⟨me, sc, au, pa, A1, c1, fs, A2, c2, b, A3, c3, ts⟩ := r
  simp only [RV.cells] at *
  have hfr : ∀ (w : World) t cs, Frm (New w) w (w.alloc (.cells cs t)) := fun w t cs => (Frm.refl _ w).alloc Up.new _
  have hs1 : ∀ (w : World) (t : TypeId) cs, (w.alloc (.cells cs t)).heap.size = w.heap.size + 1 := fun w t cs => by simp
  have hky := fun (w' : World) => rkey_any x w' hxl
  have hpl : ∀ (st : Nat) (_ : st ≤ 999) (w' : World), Calls Tryz.prog 30 #[.int .i64 (st : Int)] w' (RAny w') := fun st h w' => (rplain_any st h w').mono (fun e w2 h => h.any)
  have hal : ∀ (st : Nat) (_ : st ≤ 999) (a : Bytes) (w' : World), Calls Tryz.prog 33 #[.int .i64 (st : Int), .string ⟨a.toArray⟩] w' (RAny w') := fun st h a w' => rallow_any st h a w'
  have hhm : Here x (sto L) ↔ Here x L := here_map (fun s : SV => s.b) x L
  obtain ⟨res, hres⟩ : ∃ res, res = rkv (sto L) me b x := ⟨_, rfl⟩
  rw [← hres]
  have hrd := fun w' => rread_any ⟨me, sc, au, pa, A1, c1, fs, A2, c2, b, A3, c3, ts⟩ w'
  simp only [RV.cells] at hrd
  have hll := hK.len
  have hplt := hK.blk.lt
  unfold rkv at hres
  have HFR := Lib.hid hfr
  have HS1 := Lib.hid hs1
  have HR := Lib.hid hr
  have HK := Lib.hid hK
  have HKY := Lib.hid hky
  have HPL := Lib.hid hpl
  have HAL := Lib.hid hal
  have HRD := Lib.hid hrd
  have HHM := Lib.hid hhm
  have HL2 := Lib.hid hl2
  clear hfr hs1 hr hK hky hpl hal hrd hhm hl2
  cases hkk : hKey x with
  | false =>
    have hq : res = sto L := by rw [hres, if_pos hkk]
    have hky2 := HKY.out
    rw [hkk] at hky2
    clear hkk HKY hres
    have HQ := Lib.hid hq
    have HKY2 := Lib.hid hky2
    clear hq hky2
    obtain ⟨CA, hCA⟩ : ∃ CA, CA = (#[.string ⟨me.toArray⟩, .string ⟨sc.toArray⟩, .string ⟨au.toArray⟩, .string ⟨pa.toArray⟩, .slice A1 fs.length c1, .slice A2 b.length c2, .slice A3 ts.length c3] : Array Value) := ⟨_, rfl⟩
    go_enter Tryz.func37, Tryz.ntmps37
    go_upto_region 1 with (fail)
    rw [← hCA]
    have hb1 := Blk.new w 32 CA
    have hF1 := HFR.out w 32 CA
    have hz1 := HS1.out w 32 CA
    generalize w.alloc (.cells CA 32) = w1 at *
    have hb2 := Blk.new w1 30 #[.slice none 0 0, .slice none 0 0, .slice none 0 0]
    have hF2 := HFR.out w1 30 #[.slice none 0 0, .slice none 0 0, .slice none 0 0]
    generalize w1.alloc (.cells #[.slice none 0 0, .slice none 0 0, .slice none 0 0] 30) = w2 at *
    have hbr := hb1.fresh hF2
    have hF02 := hF1.then_new Up.new hF2
    rw [hz1] at hb2
    rw [hCA] at hbr
    obtain ⟨gr, hgr⟩ : ∃ gr, gr = w.heap.size := ⟨_, rfl⟩
    rw [← hgr] at hbr hb2 hz1 ⊢
    obtain ⟨gm, hgm⟩ : ∃ gm, gm = gr + 1 := ⟨_, rfl⟩
    rw [← hgm] at hb2
    try rw [hz1]
    try rw [← hgm]
    have hgw : w.heap.size ≤ gm := by omega
    have hgrw : w.heap.size ≤ gr := by omega
    have hlm := hb2.lt
    have hlr := hbr.lt
    clear hb1 hF1 hF2 hgr hgm hz1 hCA
    have hy0 := hbr.cell 0
    simp only [List.getElem?_toArray, List.getElem?_cons_zero] at hy0
    have HBR := Lib.hid hbr
    have HB2 := Lib.hid hb2
    have HF02 := Lib.hid hF02
    clear hbr hb2 hF02
    go_wp2_with (first
      | (go_at_call 55; refine (HKY2.out _).mono ?_; rintro e w3 ⟨rfl, rfl⟩)
      | (go_at_call 30; refine (HPL.out 404 (by decide) _).mono ?_; rintro e w9 ⟨X1, X2, X3, n1, n2, n3, k1, k2, k3, rfl, hF9⟩; have hbx := HB2.out.fresh hF9)
      | (refine wpList_store_agg rfl rfl rfl rfl hbx rfl (msg_one _ _ _ _ _ _ _ _ _) (by kernel_rfl) ?_; intro w10 hb10 hF10 hs10))
    refine bodyPost_ret (results_agg agM rfl rfl hb10 rfl) rfl ?_
    exact RSR.same HK.out (HF02.out.newg hF9 hgw hF10) HQ.out
  | true =>
    have hky2 := HKY.out
    rw [hkk] at hky2
    have hk32 : x.length ≤ 32 := by
      have h := hkk
      unfold hKey at h
      simp only [Bool.and_eq_true, decide_eq_true_eq] at h
      exact h.2.1
    rw [if_neg (by rw [hkk]; exact Bool.noConfusion)] at hres
    clear hkk HKY
    have HKY2 := Lib.hid hky2
    clear hky2
    obtain ⟨CA, hCA⟩ : ∃ CA, CA = (#[.string ⟨me.toArray⟩, .string ⟨sc.toArray⟩, .string ⟨au.toArray⟩, .string ⟨pa.toArray⟩, .slice A1 fs.length c1, .slice A2 b.length c2, .slice A3 ts.length c3] : Array Value) := ⟨_, rfl⟩
    go_enter Tryz.func37, Tryz.ntmps37
    go_upto_region 1 with (fail)
    rw [← hCA]
    have hb1 := Blk.new w 32 CA
    have hF1 := HFR.out w 32 CA
    have hz1 := HS1.out w 32 CA
    generalize w.alloc (.cells CA 32) = w1 at *
    have hb2 := Blk.new w1 30 #[.slice none 0 0, .slice none 0 0, .slice none 0 0]
    have hF2 := HFR.out w1 30 #[.slice none 0 0, .slice none 0 0, .slice none 0 0]
    generalize w1.alloc (.cells #[.slice none 0 0, .slice none 0 0, .slice none 0 0] 30) = w2 at *
    have hbr := hb1.fresh hF2
    have hF02 := hF1.then_new Up.new hF2
    rw [hz1] at hb2
    rw [hCA] at hbr
    obtain ⟨gr, hgr⟩ : ∃ gr, gr = w.heap.size := ⟨_, rfl⟩
    rw [← hgr] at hbr hb2 hz1 ⊢
    obtain ⟨gm, hgm⟩ : ∃ gm, gm = gr + 1 := ⟨_, rfl⟩
    rw [← hgm] at hb2
    try rw [hz1]
    try rw [← hgm]
    have hgw : w.heap.size ≤ gm := by omega
    have hgrw : w.heap.size ≤ gr := by omega
    have hlm := hb2.lt
    have hlr := hbr.lt
    clear hb1 hF1 hF2 hgr hgm hz1 hCA
    have hy0 := hbr.cell 0
    have hy5 := hbr.cell 5
    simp only [List.getElem?_toArray, List.getElem?_cons_zero, List.getElem?_cons_succ] at hy0 hy5
    have HBR := Lib.hid hbr
    have HB2 := Lib.hid hb2
    have HF02 := Lib.hid hF02
    clear hbr hb2 hF02
    go_upto_region 3 with (first
      | (go_at_call 55; refine (HKY2.out _).mono ?_; rintro e w3 ⟨rfl, rfl⟩))
    have hat := at_any_ x w2 p A c L (HK.out.fresh HF02.out)
    obtain ⟨bi, hbi⟩ : ∃ bi, bi = before x L := ⟨_, rfl⟩
    have hbl := bef_le x L
    rw [← hbi] at hat hbl
    have hdh : decide ((L.map (·.1))[bi]? = some x) = decide (Here x L) := by rw [hbi]; rfl
    rw [hdh] at hat
    clear hdh
    obtain ⟨bo, hbo⟩ : ∃ bo, bo = decide (Here x L) := ⟨_, rfl⟩
    rw [← hbo] at hat
    have HAT := Lib.hid hat
    have HBI := Lib.hid hbi
    have HBO := Lib.hid hbo
    clear hat hbi hbo
    go_upto_region 4 with (go_at_call 56; refine HAT.out.mono ?_; rintro e w3 ⟨rfl, q3, rfl⟩)
    have hF23 : Frm (New w2) w2 (w2.drewN q3) := (Frm.refl _ w2).drewN q3
    generalize w2.drewN q3 = w3 at *
    have hbr3 := HBR.out.fresh hF23
    have hb3 := HB2.out.fresh hF23
    have hF03 := HF02.out.then_new Up.new hF23
    have hK3 := HK.out.fresh hF03
    have hlr3 := hbr3.lt
    have hlm3 := hb3.lt
    have hlp3 := hK3.blk.lt
    have hR3 := HR.out.fresh hF03
    have hp0 := hK3.blk.cell 0
    simp only [List.getElem?_toArray, List.getElem?_cons_zero] at hp0
    clear hy0 hy5 hF23 HBR HB2 HF02 HKY2 HAT hlm hlr
    have hy0 := hbr3.cell 0
    have hy5 := hbr3.cell 5
    simp only [List.getElem?_toArray, List.getElem?_cons_zero, List.getElem?_cons_succ] at hy0 hy5
    have HBR3 := Lib.hid hbr3
    have HB3 := Lib.hid hb3
    have HF03 := Lib.hid hF03
    have HK3 := Lib.hid hK3
    have HR3 := Lib.hid hR3
    clear hbr3 hb3 hF03 hK3 hR3
    by_cases hput : me = bPUT
    · rw [if_pos hput] at hres
      subst hput
      go_upto_region 6 with (first
        | (at_builtin; refine wpList_append u8s rfl rfl rfl App.none_ Up.new rfl HR3.out (by simp [bvs]) (bvs_one _) (by have := HL2.out; omega) ?_; intro A4 c4 w4 hA4 hF4 hd4 _; rw [List.nil_append, Nat.zero_add] at hA4; have HA4 := Lib.hid hA4; have HF4 := Lib.hid hF4; have HD4 := Lib.hid hd4; clear hA4 hF4 hd4)
        | (refine wpList_new rfl rfl zPr rfl ?_; intro w5 hb5 hF5 hs5)
        | (refine wpList_store_agg rfl rfl rfl rfl hb5 rfl (pr_one _ _ _ _) (by kernel_rfl) ?_; intro w6 hb6 hF6 hs6))
      obtain ⟨g9, hg9⟩ : ∃ g9, g9 = w4.heap.size := ⟨_, rfl⟩
      rw [← hg9] at hb5 hb6 hF6 ⊢
      have hF46 : Frm (New w4) w4 w6 := hF5.trans (hF6.mono (fun q e => by have e2 : q = g9 := e; unfold New; omega))
      have hF36 := HF4.out.then_new Up.new hF46
      have hF06 := HF03.out.then_new Up.new hF36
      have hK6 := HK3.out.fresh hF36
      have hb36 := HB3.out.fresh hF36
      have hlm6 := hb36.lt
      have h34 := HF4.out.size
      have h03 := HF03.out.size
      have hg9w : w3.heap.size ≤ g9 := by omega
      have hR6 := HA4.out.rd.fresh hF46
      have hN4 : ∀ k, M.blk A4 = some k → w3.heap.size ≤ k := HA4.out.inM
      have hg96 := hb6.lt
      have hp6 := hK6.blk.cell 0
      have hlp6 := hK6.blk.lt
      have hbc := hK6.app.cap
      have hapL := hK6.app
      have hfz := hK6.blk.frozen 0
      have j0 := hb6.cell 0
      have j1 := hb6.cell 1
      simp only [List.getElem?_toArray, List.getElem?_cons_zero, List.getElem?_cons_succ] at hp6 j0 j1
      have hpg : p ≠ g9 := by omega
      have hnew : ∀ y ∈ ([(x, ⟨A4, c4, b⟩)] : List (Bytes × SV)), Rd w6 y.2.A (bvs y.2.b) ∧ (bvs y.2.b ≠ [] → ∀ k, M.blk y.2.A = some k → w3.heap.size ≤ k) ∧ y.2.b.length ≤ 1099511627776 ∧ y.1.length ≤ 32 := fun y hy => by
        obtain rfl := List.mem_singleton.1 hy
        exact ⟨hR6, fun _ k hk => hN4 k hk, HL2.out, hk32⟩
      have h36 := hF36.size
      clear hb5 hF5 hs5 hF6 hs6 HA4 HF4 HD4 hF46 hp0 hy0 hy5 hR6 hg9 HBR3 HB3 HK3 HR3 hlr3 HRD HAL
      have HF06 := Lib.hid hF06
      have HF36 := Lib.hid hF36
      have HK6 := Lib.hid hK6
      have HB36 := Lib.hid hb36
      have HAPL := Lib.hid hapL
      have HN4 := Lib.hid hN4
      have HNEW := Lib.hid hnew
      have HB6 := Lib.hid hb6
      have HPG := Lib.hid hpg
      clear hF06 hF36 hK6 hb36 hapL hN4 hnew hb6 hpg
      by_cases hh : Here x L
      · obtain rfl : bo = true := by rw [HBO.out]; exact decide_eq_true hh
        rw [if_pos (HHM.out.2 hh)] at hres
        have hlt : bi < L.length := by rw [HBI.out]; exact here_lt hh
        obtain ⟨bj, hbj⟩ : ∃ bj, bj = bi + 1 := ⟨_, rfl⟩
        have hbjl : (bj : Int) ≤ (L.length : Int) := by omega
        have hbjc : (bj : Int) ≤ (c : Int) := by omega
        have hwr : IntKind.i64.wrap ((bi : Int) + 1) = (bj : Int) := by rw [hbj]; exact wrap_small _ (by omega) (by omega)
        have HBJ := Lib.hid hbj
        clear hbj
        go_upto_region 7 with (fail)
        have hSw : ∀ w', Frm (New w6) w6 w' → w'.cell? ⟨p, 0, none⟩ = some (.slice A L.length c) ∧ w'.cell? ⟨g9, 0, none⟩ = some (.string ⟨x.toArray⟩) ∧ w'.cell? ⟨g9, 1, none⟩ = some (.slice A4 b.length c4) := fun w' h => ⟨by rw [h.cell (p := ⟨p, 0, none⟩) (by show ¬ (w6.heap.size ≤ p); omega)]; exact hp6, by rw [h.cell (p := ⟨g9, 0, none⟩) (by show ¬ (w6.heap.size ≤ g9); omega)]; exact j0, by rw [h.cell (p := ⟨g9, 1, none⟩) (by show ¬ (w6.heap.size ≤ g9); omega)]; exact j1⟩
        have hS0 := hSw w6.drew ((Frm.refl (New w6) w6).drew)
        have hbci : (bi : Int) ≤ (c : Int) := by omega
        have hbli : (bi : Int) ≤ (L.length : Int) := by omega
        refine wp_region_til (by kernel_rfl) (fun w' => w'.cell? ⟨p, 0, none⟩ = some (.slice A L.length c) ∧ w'.cell? ⟨g9, 0, none⟩ = some (.string ⟨x.toArray⟩) ∧ w'.cell? ⟨g9, 1, none⟩ = some (.slice A4 b.length c4)) 21 ?_
        refine wpAnyT_take (i := 0) (v := ?_) (d := some 30) rfl (by rfl) (by kernel_rfl) (fun _ _ _ h => h) (by rfl) hS0 (fun w hSw => ?_) ?_
        rotate_left
        · (try dsimp only at hSw); go_simp; first | done | (with_reducible rfl)
        simp only [Act.put, List.setIfInBounds_toArray, List.set_cons_zero, List.set_cons_succ]
        refine wpAnyT_take (i := 1) (v := ?_) (d := some 31) rfl (by rfl) (by kernel_rfl) (fun _ _ _ h => h) (by rfl) hS0 (fun w hSw => ?_) ?_
        rotate_left
        · (try dsimp only at hSw); go_simp; first | done | (with_reducible rfl)
        simp only [Act.put, List.setIfInBounds_toArray, List.set_cons_zero, List.set_cons_succ]
        refine wpAnyT_take (i := 2) (v := ?_) (d := some 32) rfl (by rfl) (by kernel_rfl) (fun _ _ _ h => h) (by rfl) hS0 (fun w hSw => ?_) ?_
        rotate_left
        · (try dsimp only at hSw); go_simp; first | done | (with_reducible rfl)
        simp only [Act.put, List.setIfInBounds_toArray, List.set_cons_zero, List.set_cons_succ]
        refine wpAnyT_take (i := 3) (v := ?_) (d := some 33) rfl (by rfl) (by kernel_rfl) (fun _ _ _ h => h) (by rfl) hS0 (fun w hSw => ?_) ?_
        rotate_left
        · (try dsimp only at hSw); go_simp; first | done | (with_reducible rfl)
        simp only [Act.put, List.setIfInBounds_toArray, List.set_cons_zero, List.set_cons_succ]
        refine wpAnyT_take (i := 4) (v := ?_) (d := some 34) rfl (by rfl) (by kernel_rfl) (fun _ _ _ h => h) (by rfl) hS0 (fun w hSw => ?_) ?_
        rotate_left
        · (try dsimp only at hSw); go_simp; first | done | (with_reducible rfl)
        simp only [Act.put, List.setIfInBounds_toArray, List.set_cons_zero, List.set_cons_succ]
        refine wpAnyT_take (i := 5) (v := ?_) (d := some 35) rfl (by rfl) (by kernel_rfl) (fun _ _ _ h => h) (by rfl) hS0 (fun w hSw => ?_) ?_
        rotate_left
        · (try dsimp only at hSw); go_simp; first | done | (with_reducible rfl)
        simp only [Act.put, List.setIfInBounds_toArray, List.set_cons_zero, List.set_cons_succ]
        refine wpAnyT_take (i := 6) (v := ?_) (d := some 36) rfl (by rfl) (by kernel_rfl) (fun _ _ _ h => h) (by rfl) hS0 (fun w hSw => ?_) ?_
        rotate_left
        · (try dsimp only at hSw); go_simp; first | done | (with_reducible rfl)
        simp only [Act.put, List.setIfInBounds_toArray, List.set_cons_zero, List.set_cons_succ]
        refine wpAnyT_take (i := 7) (v := ?_) (d := some 37) rfl (by rfl) (by kernel_rfl) (fun _ _ _ h => h) (by rfl) hS0 (fun w hSw => ?_) ?_
        rotate_left
        · (try dsimp only at hSw); go_simp; first | done | (with_reducible rfl)
        simp only [Act.put, List.setIfInBounds_toArray, List.set_cons_zero, List.set_cons_succ]
        refine wpAnyT_take (i := 8) (v := ?_) (d := some 38) rfl (by rfl) (by kernel_rfl) (fun _ _ _ h => h) (by rfl) hS0 (fun w hSw => ?_) ?_
        rotate_left
        · (try dsimp only at hSw); go_simp; first | done | (with_reducible rfl)
        simp only [Act.put, List.setIfInBounds_toArray, List.set_cons_zero, List.set_cons_succ]
        refine wpAnyT_take (i := 11) (v := ?_) (d := some 41) rfl (by rfl) (by kernel_rfl) (fun _ _ _ h => h) (by rfl) hS0 (fun w hSw => ?_) ?_
        rotate_left
        · (try dsimp only at hSw); go_simp; first | done | (with_reducible rfl)
        simp only [Act.put, List.setIfInBounds_toArray, List.set_cons_zero, List.set_cons_succ]
        refine wpAnyT_take (i := 12) (v := ?_) (d := some 42) rfl (by rfl) (by kernel_rfl) (fun _ _ _ h => h) (by rfl) hS0 (fun w hSw => ?_) ?_
        rotate_left
        · (try dsimp only at hSw); go_simp; first | done | (with_reducible rfl)
        simp only [Act.put, List.setIfInBounds_toArray, List.set_cons_zero, List.set_cons_succ]
        refine wpAnyT_take (i := 13) (v := ?_) (d := some 43) rfl (by rfl) (by kernel_rfl) (fun _ _ _ h => h) (by rfl) hS0 (fun w hSw => ?_) ?_
        rotate_left
        · (try dsimp only at hSw); go_simp; first | done | (with_reducible rfl)
        simp only [Act.put, List.setIfInBounds_toArray, List.set_cons_zero, List.set_cons_succ]
        refine wpAnyT_take (i := 14) (v := ?_) (d := some 44) rfl (by rfl) (by kernel_rfl) (fun _ _ _ h => h) (by rfl) hS0 (fun w hSw => ?_) ?_
        rotate_left
        · (try dsimp only at hSw); go_simp; first | done | (with_reducible rfl)
        simp only [Act.put, List.setIfInBounds_toArray, List.set_cons_zero, List.set_cons_succ]
        refine wpAnyT_take (i := 15) (v := ?_) (d := some 45) rfl (by rfl) (by kernel_rfl) (fun _ _ _ h => h) (by rfl) hS0 (fun w hSw => ?_) ?_
        rotate_left
        · (try dsimp only at hSw); go_simp; first | done | (with_reducible rfl)
        simp only [Act.put, List.setIfInBounds_toArray, List.set_cons_zero, List.set_cons_succ]
        refine wpAnyT_take (i := 16) (v := ?_) (d := some 46) rfl (by rfl) (by kernel_rfl) (fun _ _ _ h => h) (by rfl) hS0 (fun w hSw => ?_) ?_
        rotate_left
        · (try dsimp only at hSw); go_simp; first | done | (with_reducible rfl)
        simp only [Act.put, List.setIfInBounds_toArray, List.set_cons_zero, List.set_cons_succ]
        refine wpAnyT_take (i := 17) (v := ?_) (d := some 47) rfl (by rfl) (by kernel_rfl) (fun _ _ _ h => h) (by rfl) hS0 (fun w hSw => ?_) ?_
        rotate_left
        · (try dsimp only at hSw); go_simp; first | done | (with_reducible rfl)
        simp only [Act.put, List.setIfInBounds_toArray, List.set_cons_zero, List.set_cons_succ]
        have hF61 : Frm (New w6) w6 (w6.alloc (.cells #[.string ⟨x.toArray⟩, .slice A4 b.length c4] 90)).drew := ((Frm.refl (New w6) w6).alloc Up.new _).drew
        refine wpAnyT_one (i := 9) rfl (by kernel_rfl) (fun K hK => ?_)
        go_simp
        refine hK.out _ _ (.inr ((hSw _ hF61))) ?_
        clear hK K
        have hlit : App (New w6) (w6.alloc (.cells #[.string ⟨x.toArray⟩, .slice A4 b.length c4] 90)).drew 90 2 (some ⟨w6.heap.size, 0, none⟩) 1 1 (pcl (x, ⟨A4, c4, b⟩)) :=
          (App.full (Rd.new w6 #[.string ⟨x.toArray⟩, .slice A4 b.length c4] 90) rfl (by decide) (fun c => by cases c) (fun q hq => by simp at hq; show w6.heap.size ≤ q; omega) (fun _ => ⟨_, 0, _, rfl, heap_alloc_new w6 _, by simp, Nat.le_refl _⟩)).drew
        have hone : ∀ u ∈ pcl (x, (⟨A4, c4, b⟩ : SV)), u.oneCell' = true := fun u hu => by
          simp only [pcl, List.mem_cons, List.not_mem_nil, or_false] at hu
          rcases hu with rfl | rfl <;> rfl
        have hdrop : Rd w6 (if c = bj then A else A.map (·.add ((bj) * 2))) ((L.drop (bj)).flatMap pcl) := by
          rw [pcl_drop]
          exact cut_rd (n := L.length) HAPL.out.rd (by rw [pcl_length]; omega) hbc (bj)
        have hdl : ((L.drop (bj)).flatMap pcl).length = (L.length - (bj)) * 2 := by rw [pcl_length, List.length_drop]
        have hcut0 : App (fun q => New w6 q ∨ blk A = some q) w6 90 2 A bi bi ((L.take bi).flatMap pcl) := by
          rw [pcl_take]
          exact (HAPL.out.cutk bi hbl).to (fun q hq => .inr hq)
        have HLIT := Lib.hid hlit
        have HDROP := Lib.hid hdrop
        have HCUT0 := Lib.hid hcut0
        have HSW := Lib.hid hSw
        clear hlit hdrop hcut0 hSw
        refine wpAnyT_one (i := 10) rfl (by kernel_rfl) (fun K hK => ?_)
        (refine step_append2 (M := fun q => New w6 q ∨ blk A = some q) (A := A) (n := bi) (c := bi) (xs := (L.take bi).flatMap pcl) (news := pcl (x, ⟨A4, c4, b⟩)) pairs rfl rfl rfl (HCUT0.out.fresh hF61) (fun q hq => .inl (Nat.le_trans hF61.size hq)) rfl HLIT.out.rd rfl hone (by omega) ?_; intro A5 c5 w5 hA5 _ hd5 hW5; have hF56 : Frm (New w6) w6 w5 := hF61.then_new Up.new (hW5.mono (fun q hq => by rcases hq with h | h; exact h; exact absurd h.1 (by omega))))
        refine hK.out _ _ (.inr ((HSW.out _ hF56))) ?_
        clear hK K
        have hb5n : ∀ k, M.blk A5 = some k → w6.heap.size ≤ k := fun k hk => by
          rcases hd5 with h | h
          · have := hA5.cap; omega
          · rw [h.1] at hk
            have := hF61.size
            simp only [Option.some.injEq] at hk
            omega
        have hA5n : App (New w6) w5 90 2 A5 (bi + 1) c5 ((L.take bi).flatMap pcl ++ pcl (x, ⟨A4, c4, b⟩)) := hA5.to hb5n
        have hd56 := HDROP.out.fresh hF56
        clear hA5 hd5 hW5 hF61
        have HA5N := Lib.hid hA5n
        have HD56 := Lib.hid hd56
        clear hA5n hd56
        refine wpAnyT_one (i := 18) rfl (by kernel_rfl) (fun K hK => ?_)
        (refine step_append2 (M := New w6) (A := A5) (n := bi + 1) (c := c5) (xs := (L.take bi).flatMap pcl ++ pcl (x, ⟨A4, c4, b⟩)) (news := (L.drop bj).flatMap pcl) pairs rfl rfl rfl HA5N.out (Up.new.frm hF56) rfl HD56.out hdl (pcl_one _) (by omega) ?_; intro A9 c9 w9 hA9 hF59 hd9 _)
        refine hK.out _ _ (.inr ((HSW.out _ (hF56.trans hF59)))) ?_
        clear hK K
        have hF69 := hF56.trans hF59
        have hS6 := HSW.out _ hF69
        have hb9n : ∀ k, M.blk A9 = some k → w6.heap.size ≤ k := hA9.inM
        have hA9' : App (fun q => New w6 q ∨ blk A = some q) w9 90 2 A9 (bi + 1 + (L.length - bj)) c9 ((setL x ⟨A4, c4, b⟩ L).flatMap pcl) := by
          have hrow : (setL x ⟨A4, c4, b⟩ L).flatMap pcl = (L.take bi).flatMap pcl ++ pcl (x, ⟨A4, c4, b⟩) ++ (L.drop bj).flatMap pcl := by
            unfold setL
            rw [← HBI.out, ← HBJ.out, List.flatMap_append, List.flatMap_cons, ← List.append_assoc]
          rw [hrow]
          exact App.to hA9 (fun q hq => Or.inl (hb9n q hq))
        clear hA9 hF59 hd9 HA5N HD56 hb5n hF56 hone
        have HA9 := Lib.hid hA9'
        have HF69 := Lib.hid hF69
        clear hA9' hF69
        have hd6 := hS6.1
        have hz6 : w9.frozen? ⟨p, 0, none⟩ = false := by rw [HF69.out.frozen (p := ⟨p, 0, none⟩) (by show ¬ (w6.heap.size ≤ p); omega)]; exact hfz
        have hg6 : p < w9.heap.size := by have := HF69.out.size; omega
        clear j0 j1 HLIT HDROP HCUT0 HSW hdl
        refine wpAnyT_one (i := 19) rfl (by kernel_rfl) (fun K hK => ?_)
        go_simp
        refine hK.out _ _ (.inr (hS6)) ?_
        clear hK K
        refine wpAnyT_one (i := 20) rfl (by kernel_rfl) (fun K hK => ?_)
        go_simp
        refine hK.out _ _ (.inr (hS6)) ?_
        clear hK K
        refine wpAnyT_one (i := 21) rfl (by kernel_rfl) (fun K hK => ?_)
        go_simp
        refine hK.out _ _ (.inl (by kernel_rfl)) ?_
        clear hK K
        refine wpAnyT_done (by kernel_rfl) ?_ _
        clear hd6 hz6 hg6
        obtain ⟨L6, hL6⟩ : ∃ L6, L6 = setL x ⟨A4, c4, b⟩ L := ⟨_, rfl⟩
        have hA9 : App (fun q => New w6 q ∨ blk A = some q) w9 90 2 A9 L6.length c9 (L6.flatMap pcl) := by
          have e1 : bi + 1 + (L.length - bj) = L6.length := by rw [hL6, len_set hh]; have := HBJ.out; omega
          have h := HA9.out
          rw [e1, ← hL6] at h
          exact h
        have hst := HK6.out.store (w0 := w3) hlp3 HF69.out hA9 (.inr ⟨by rw [hL6, len_set hh]; omega, hb9n⟩) (fun y hy => by rw [hL6] at hy; rcases mem_set hy with rfl | h; exact .inr (by have h1 := HNEW.out _ (List.mem_singleton.2 rfl); exact ⟨h1.1.fresh HF69.out, h1.2⟩); exact .inl h) (by rw [hL6]; exact srt_set HK.out.nd hh) (by rw [hL6, len_set hh]; omega)
        have hleq : bi + 1 + (L.length - bj) = L6.length := by rw [hL6, len_set hh]; have := HBJ.out; omega
        have hsto : sto L6 = res := by rw [hres, hL6]; exact set_map (fun s : SV => s.b) x _ L
        have hd6 : M.blk A9 = M.blk A ∨ (∀ k, M.blk A9 = some k → w3.heap.size ≤ k) := .inr (fun k hk => by have := hb9n k hk; omega)
        have hb39 := (HB36.out.fresh HF69.out).far (p := ⟨p, 0, none⟩) (by simp only; omega) (.slice A9 L6.length c9)
        try rw [hleq]
        clear hL6 hleq hres hS6 hA9
        generalize w9.setCell ⟨p, 0, none⟩ (.slice A9 L6.length c9) = w7 at *
        obtain ⟨hK7, hF67, ho7⟩ := hst
        have HK7 := Lib.hid hK7
        have HF67 := Lib.hid hF67
        have HO7 := Lib.hid ho7
        have HSTO := Lib.hid hsto
        have HD6 := Lib.hid hd6
        have HB39 := Lib.hid hb39
        clear hK7 hF67 ho7 hsto hd6 hb39
        go_wp2_with (first
          | (go_at_call 30; refine (HPL.out 204 (by decide) _).mono ?_; rintro e w19 ⟨X1, X2, X3, n1, n2, n3, k1, k2, k3, rfl, hF9⟩; have hbx := HB39.out.fresh hF9)
          | (refine wpList_store_agg rfl rfl rfl rfl hbx rfl (msg_one _ _ _ _ _ _ _ _ _) (by kernel_rfl) ?_; intro w10 hb10 hF10 hs10))
        all_goals refine bodyPost_ret (results_agg agM rfl rfl hb10 rfl) rfl ?_
        all_goals exact RSR.done HK.out HF03.out hgw hlm3 HK7.out ((HF36.out.mono (fun k hk => .inr hk)).trans (HF67.out.mono (fun k hk => hk.imp id (fun h => by unfold New at h ⊢; omega)))) HO7.out HD6.out hF9 hF10 HSTO.out
      · obtain rfl : bo = false := by rw [HBO.out]; exact decide_eq_false hh
        rw [if_neg (fun e => hh (HHM.out.1 e))] at hres
        have hTl : (sto L).length = L.length := List.length_map _
        rw [hTl] at hres
        by_cases h64 : 64 ≤ L.length
        · rw [if_pos h64] at hres
          have h64i : (64 : Int) ≤ (L.length : Int) := by omega
          go_wp2_with (first
            | (go_at_call 30; refine (HPL.out 507 (by decide) _).mono ?_; rintro e w9 ⟨X1, X2, X3, n1, n2, n3, k1, k2, k3, rfl, hF9⟩; have hbx := HB36.out.fresh hF9)
            | (refine wpList_store_agg rfl rfl rfl rfl hbx rfl (msg_one _ _ _ _ _ _ _ _ _) (by kernel_rfl) ?_; intro w10 hb10 hF10 hs10))
          refine bodyPost_ret (results_agg agM rfl rfl hb10 rfl) rfl ?_
          exact RSR.same HK.out (HF06.out.newg hF9 hgw hF10) hres
        · rw [if_neg h64] at hres
          have h64i : ¬ (64 : Int) ≤ (L.length : Int) := by omega
          go_upto_region 11 with (fail)
          have hSw : ∀ w', Frm (New w6) w6 w' → w'.cell? ⟨p, 0, none⟩ = some (.slice A L.length c) ∧ w'.cell? ⟨g9, 0, none⟩ = some (.string ⟨x.toArray⟩) ∧ w'.cell? ⟨g9, 1, none⟩ = some (.slice A4 b.length c4) := fun w' h => ⟨by rw [h.cell (p := ⟨p, 0, none⟩) (by show ¬ (w6.heap.size ≤ p); omega)]; exact hp6, by rw [h.cell (p := ⟨g9, 0, none⟩) (by show ¬ (w6.heap.size ≤ g9); omega)]; exact j0, by rw [h.cell (p := ⟨g9, 1, none⟩) (by show ¬ (w6.heap.size ≤ g9); omega)]; exact j1⟩
          have hS0 := hSw w6.drew ((Frm.refl (New w6) w6).drew)
          have hbci : (bi : Int) ≤ (c : Int) := by omega
          have hbli : (bi : Int) ≤ (L.length : Int) := by omega
          refine wp_region_til (by kernel_rfl) (fun w' => w'.cell? ⟨p, 0, none⟩ = some (.slice A L.length c) ∧ w'.cell? ⟨g9, 0, none⟩ = some (.string ⟨x.toArray⟩) ∧ w'.cell? ⟨g9, 1, none⟩ = some (.slice A4 b.length c4)) 20 ?_
          refine wpAnyT_take (i := 0) (v := ?_) (d := some 59) rfl (by rfl) (by kernel_rfl) (fun _ _ _ h => h) (by rfl) hS0 (fun w hSw => ?_) ?_
          rotate_left
          · (try dsimp only at hSw); go_simp; first | done | (with_reducible rfl)
          simp only [Act.put, List.setIfInBounds_toArray, List.set_cons_zero, List.set_cons_succ]
          refine wpAnyT_take (i := 1) (v := ?_) (d := some 60) rfl (by rfl) (by kernel_rfl) (fun _ _ _ h => h) (by rfl) hS0 (fun w hSw => ?_) ?_
          rotate_left
          · (try dsimp only at hSw); go_simp; first | done | (with_reducible rfl)
          simp only [Act.put, List.setIfInBounds_toArray, List.set_cons_zero, List.set_cons_succ]
          refine wpAnyT_take (i := 2) (v := ?_) (d := some 61) rfl (by rfl) (by kernel_rfl) (fun _ _ _ h => h) (by rfl) hS0 (fun w hSw => ?_) ?_
          rotate_left
          · (try dsimp only at hSw); go_simp; first | done | (with_reducible rfl)
          simp only [Act.put, List.setIfInBounds_toArray, List.set_cons_zero, List.set_cons_succ]
          refine wpAnyT_take (i := 3) (v := ?_) (d := some 62) rfl (by rfl) (by kernel_rfl) (fun _ _ _ h => h) (by rfl) hS0 (fun w hSw => ?_) ?_
          rotate_left
          · (try dsimp only at hSw); go_simp; first | done | (with_reducible rfl)
          simp only [Act.put, List.setIfInBounds_toArray, List.set_cons_zero, List.set_cons_succ]
          refine wpAnyT_take (i := 4) (v := ?_) (d := some 63) rfl (by rfl) (by kernel_rfl) (fun _ _ _ h => h) (by rfl) hS0 (fun w hSw => ?_) ?_
          rotate_left
          · (try dsimp only at hSw); go_simp; first | done | (with_reducible rfl)
          simp only [Act.put, List.setIfInBounds_toArray, List.set_cons_zero, List.set_cons_succ]
          refine wpAnyT_take (i := 5) (v := ?_) (d := some 64) rfl (by rfl) (by kernel_rfl) (fun _ _ _ h => h) (by rfl) hS0 (fun w hSw => ?_) ?_
          rotate_left
          · (try dsimp only at hSw); go_simp; first | done | (with_reducible rfl)
          simp only [Act.put, List.setIfInBounds_toArray, List.set_cons_zero, List.set_cons_succ]
          refine wpAnyT_take (i := 6) (v := ?_) (d := some 65) rfl (by rfl) (by kernel_rfl) (fun _ _ _ h => h) (by rfl) hS0 (fun w hSw => ?_) ?_
          rotate_left
          · (try dsimp only at hSw); go_simp; first | done | (with_reducible rfl)
          simp only [Act.put, List.setIfInBounds_toArray, List.set_cons_zero, List.set_cons_succ]
          refine wpAnyT_take (i := 7) (v := ?_) (d := some 66) rfl (by rfl) (by kernel_rfl) (fun _ _ _ h => h) (by rfl) hS0 (fun w hSw => ?_) ?_
          rotate_left
          · (try dsimp only at hSw); go_simp; first | done | (with_reducible rfl)
          simp only [Act.put, List.setIfInBounds_toArray, List.set_cons_zero, List.set_cons_succ]
          refine wpAnyT_take (i := 8) (v := ?_) (d := some 67) rfl (by rfl) (by kernel_rfl) (fun _ _ _ h => h) (by rfl) hS0 (fun w hSw => ?_) ?_
          rotate_left
          · (try dsimp only at hSw); go_simp; first | done | (with_reducible rfl)
          simp only [Act.put, List.setIfInBounds_toArray, List.set_cons_zero, List.set_cons_succ]
          refine wpAnyT_take (i := 10) (v := ?_) (d := some 69) rfl (by rfl) (by kernel_rfl) (fun _ _ _ h => h) (by rfl) hS0 (fun w hSw => ?_) ?_
          rotate_left
          · (try dsimp only at hSw); go_simp; first | done | (with_reducible rfl)
          simp only [Act.put, List.setIfInBounds_toArray, List.set_cons_zero, List.set_cons_succ]
          refine wpAnyT_take (i := 11) (v := ?_) (d := some 70) rfl (by rfl) (by kernel_rfl) (fun _ _ _ h => h) (by rfl) hS0 (fun w hSw => ?_) ?_
          rotate_left
          · (try dsimp only at hSw); go_simp; first | done | (with_reducible rfl)
          simp only [Act.put, List.setIfInBounds_toArray, List.set_cons_zero, List.set_cons_succ]
          refine wpAnyT_take (i := 12) (v := ?_) (d := some 71) rfl (by rfl) (by kernel_rfl) (fun _ _ _ h => h) (by rfl) hS0 (fun w hSw => ?_) ?_
          rotate_left
          · (try dsimp only at hSw); go_simp; first | done | (with_reducible rfl)
          simp only [Act.put, List.setIfInBounds_toArray, List.set_cons_zero, List.set_cons_succ]
          refine wpAnyT_take (i := 13) (v := ?_) (d := some 72) rfl (by rfl) (by kernel_rfl) (fun _ _ _ h => h) (by rfl) hS0 (fun w hSw => ?_) ?_
          rotate_left
          · (try dsimp only at hSw); go_simp; first | done | (with_reducible rfl)
          simp only [Act.put, List.setIfInBounds_toArray, List.set_cons_zero, List.set_cons_succ]
          refine wpAnyT_take (i := 14) (v := ?_) (d := some 73) rfl (by rfl) (by kernel_rfl) (fun _ _ _ h => h) (by rfl) hS0 (fun w hSw => ?_) ?_
          rotate_left
          · (try dsimp only at hSw); go_simp; first | done | (with_reducible rfl)
          simp only [Act.put, List.setIfInBounds_toArray, List.set_cons_zero, List.set_cons_succ]
          refine wpAnyT_take (i := 15) (v := ?_) (d := some 74) rfl (by rfl) (by kernel_rfl) (fun _ _ _ h => h) (by rfl) hS0 (fun w hSw => ?_) ?_
          rotate_left
          · (try dsimp only at hSw); go_simp; first | done | (with_reducible rfl)
          simp only [Act.put, List.setIfInBounds_toArray, List.set_cons_zero, List.set_cons_succ]
          have hF61 : Frm (New w6) w6 (w6.alloc (.cells #[.string ⟨x.toArray⟩, .slice A4 b.length c4] 90)).drew := ((Frm.refl (New w6) w6).alloc Up.new _).drew
          refine wpAnyT_one (i := 9) rfl (by kernel_rfl) (fun K hK => ?_)
          go_simp
          refine hK.out _ _ (.inr ((hSw _ hF61))) ?_
          clear hK K
          have hlit : App (New w6) (w6.alloc (.cells #[.string ⟨x.toArray⟩, .slice A4 b.length c4] 90)).drew 90 2 (some ⟨w6.heap.size, 0, none⟩) 1 1 (pcl (x, ⟨A4, c4, b⟩)) :=
            (App.full (Rd.new w6 #[.string ⟨x.toArray⟩, .slice A4 b.length c4] 90) rfl (by decide) (fun c => by cases c) (fun q hq => by simp at hq; show w6.heap.size ≤ q; omega) (fun _ => ⟨_, 0, _, rfl, heap_alloc_new w6 _, by simp, Nat.le_refl _⟩)).drew
          have hone : ∀ u ∈ pcl (x, (⟨A4, c4, b⟩ : SV)), u.oneCell' = true := fun u hu => by
            simp only [pcl, List.mem_cons, List.not_mem_nil, or_false] at hu
            rcases hu with rfl | rfl <;> rfl
          have hdrop : Rd w6 (if c = bi then A else A.map (·.add ((bi) * 2))) ((L.drop (bi)).flatMap pcl) := by
            rw [pcl_drop]
            exact cut_rd (n := L.length) HAPL.out.rd (by rw [pcl_length]; omega) hbc (bi)
          have hdl : ((L.drop (bi)).flatMap pcl).length = (L.length - (bi)) * 2 := by rw [pcl_length, List.length_drop]
          have hcut0 : App (fun q => New w6 q ∨ blk A = some q) w6 90 2 A bi bi ((L.take bi).flatMap pcl) := by
            rw [pcl_take]
            exact (HAPL.out.cutk bi hbl).to (fun q hq => .inr hq)
          have HLIT := Lib.hid hlit
          have HDROP := Lib.hid hdrop
          have HCUT0 := Lib.hid hcut0
          have HSW := Lib.hid hSw
          clear hlit hdrop hcut0 hSw
          refine wpAnyT_one (i := 16) rfl (by kernel_rfl) (fun K hK => ?_)
          (refine step_append2 (M := New w6) (A := some ⟨w6.heap.size, 0, none⟩) (n := 1) (c := 1) (xs := pcl (x, ⟨A4, c4, b⟩)) (news := (L.drop bi).flatMap pcl) pairs rfl rfl rfl HLIT.out (Up.new.frm hF61) rfl (HDROP.out.fresh hF61) hdl (pcl_one _) (by omega) ?_; intro A5 c5 w5 hA5 hF5 _ _)
          refine hK.out _ _ (.inr ((HSW.out _ (hF61.trans hF5)))) ?_
          clear hK K
          have hF56 := hF61.trans hF5
          have hnews : Rd w5 A5 (pcl (x, ⟨A4, c4, b⟩) ++ (L.drop bi).flatMap pcl) := hA5.rd
          have hcut5 := HCUT0.out.fresh hF56
          have hS5 := HSW.out _ hF56
          have hnl : (pcl (x, (⟨A4, c4, b⟩ : SV)) ++ (L.drop bi).flatMap pcl).length = (1 + (L.length - bi)) * 2 := by rw [List.length_append, hdl]; show 2 + _ = _; omega
          have hn1 : ∀ u ∈ pcl (x, (⟨A4, c4, b⟩ : SV)) ++ (L.drop bi).flatMap pcl, u.oneCell' = true := fun u hu => by
            rcases List.mem_append.1 hu with h | h
            · exact hone u h
            · exact pcl_one _ u h
          clear hA5 hF5 hF61
          have HNEWS := Lib.hid hnews
          have HCUT5 := Lib.hid hcut5
          clear hnews hcut5
          refine wpAnyT_one (i := 17) rfl (by kernel_rfl) (fun K hK => ?_)
          (refine step_append2 (M := fun q => New w6 q ∨ blk A = some q) (A := A) (n := bi) (c := bi) (xs := (L.take bi).flatMap pcl) (news := pcl (x, ⟨A4, c4, b⟩) ++ (L.drop bi).flatMap pcl) pairs rfl rfl rfl HCUT5.out (fun q hq => .inl (Nat.le_trans hF56.size hq)) rfl HNEWS.out hnl hn1 (by omega) ?_; intro A9 c9 w9 hA9 _ hd9 hW9; have hF59 : Frm (New w5) w5 w9 := hW9.mono (fun q hq => by rcases hq with h | h; exact h; exact absurd h.1 (by omega)))
          refine hK.out _ _ (.inr ((HSW.out _ (hF56.then_new Up.new hF59)))) ?_
          clear hK K
          have hF69 := hF56.then_new Up.new hF59
          have hS6 := HSW.out _ hF69
          have hb9n : ∀ k, M.blk A9 = some k → w6.heap.size ≤ k := fun k hk => by
            rcases hd9 with h | h
            · have := hA9.cap; omega
            · rw [h.1] at hk
              have := hF56.size
              simp only [Option.some.injEq] at hk
              omega
          have hA9' : App (fun q => New w6 q ∨ blk A = some q) w9 90 2 A9 (bi + (1 + (L.length - bi))) c9 ((insL x ⟨A4, c4, b⟩ L).flatMap pcl) := by
            unfold insL
            rw [← HBI.out, List.flatMap_append, List.flatMap_cons]
            exact hA9
          clear hA9 hF59 hd9 hW9 HCUT5 HNEWS hF56 hone hnl hn1 hS5
          have HA9 := Lib.hid hA9'
          have HF69 := Lib.hid hF69
          clear hA9' hF69
          have hd6 := hS6.1
          have hz6 : w9.frozen? ⟨p, 0, none⟩ = false := by rw [HF69.out.frozen (p := ⟨p, 0, none⟩) (by show ¬ (w6.heap.size ≤ p); omega)]; exact hfz
          have hg6 : p < w9.heap.size := by have := HF69.out.size; omega
          clear j0 j1 HLIT HDROP HCUT0 HSW hdl
          refine wpAnyT_one (i := 18) rfl (by kernel_rfl) (fun K hK => ?_)
          go_simp
          refine hK.out _ _ (.inr (hS6)) ?_
          clear hK K
          refine wpAnyT_one (i := 19) rfl (by kernel_rfl) (fun K hK => ?_)
          go_simp
          refine hK.out _ _ (.inr (hS6)) ?_
          clear hK K
          refine wpAnyT_one (i := 20) rfl (by kernel_rfl) (fun K hK => ?_)
          go_simp
          refine hK.out _ _ (.inl (by kernel_rfl)) ?_
          clear hK K
          refine wpAnyT_done (by kernel_rfl) ?_ _
          clear hd6 hz6 hg6
          obtain ⟨L6, hL6⟩ : ∃ L6, L6 = insL x ⟨A4, c4, b⟩ L := ⟨_, rfl⟩
          have hA9 : App (fun q => New w6 q ∨ blk A = some q) w9 90 2 A9 L6.length c9 (L6.flatMap pcl) := by
            have e1 : bi + (1 + (L.length - bi)) = L6.length := by rw [hL6, len_ins]; omega
            have h := HA9.out
            rw [e1, ← hL6] at h
            exact h
          have hst := HK6.out.store (w0 := w3) hlp3 HF69.out hA9 (.inr ⟨by rw [hL6, len_ins]; omega, hb9n⟩) (fun y hy => by rw [hL6] at hy; rcases mem_ins hy with rfl | h; exact .inr (by have h1 := HNEW.out _ (List.mem_singleton.2 rfl); exact ⟨h1.1.fresh HF69.out, h1.2⟩); exact .inl h) (by rw [hL6]; exact srt_ins HK.out.nd hh) (by rw [hL6, len_ins]; omega)
          have hleq2 : bi + (L.length - bi + 1) = L6.length := by rw [hL6, len_ins]; omega
          have hleq : bi + (1 + (L.length - bi)) = L6.length := by rw [hL6, len_ins]; omega
          have hsto : sto L6 = res := by rw [hres, hL6]; exact ins_map (fun s : SV => s.b) x _ L
          have hd6 : M.blk A9 = M.blk A ∨ (∀ k, M.blk A9 = some k → w3.heap.size ≤ k) := .inr (fun k hk => by have := hb9n k hk; omega)
          have hb39 := (HB36.out.fresh HF69.out).far (p := ⟨p, 0, none⟩) (by simp only; omega) (.slice A9 L6.length c9)
          first | rw [hleq] | rw [hleq2]
          clear hL6 hleq hleq2 hres hS6 hA9
          generalize w9.setCell ⟨p, 0, none⟩ (.slice A9 L6.length c9) = w7 at *
          obtain ⟨hK7, hF67, ho7⟩ := hst
          have HK7 := Lib.hid hK7
          have HF67 := Lib.hid hF67
          have HO7 := Lib.hid ho7
          have HSTO := Lib.hid hsto
          have HD6 := Lib.hid hd6
          have HB39 := Lib.hid hb39
          clear hK7 hF67 ho7 hsto hd6 hb39
          go_wp2_with (first
            | (go_at_call 30; refine (HPL.out 201 (by decide) _).mono ?_; rintro e w19 ⟨X1, X2, X3, n1, n2, n3, k1, k2, k3, rfl, hF9⟩; have hbx := HB39.out.fresh hF9)
            | (refine wpList_store_agg rfl rfl rfl rfl hbx rfl (msg_one _ _ _ _ _ _ _ _ _) (by kernel_rfl) ?_; intro w10 hb10 hF10 hs10))
          all_goals refine bodyPost_ret (results_agg agM rfl rfl hb10 rfl) rfl ?_
          all_goals exact RSR.done HK.out HF03.out hgw hlm3 HK7.out ((HF36.out.mono (fun k hk => .inr hk)).trans (HF67.out.mono (fun k hk => hk.imp id (fun h => by unfold New at h ⊢; omega)))) HO7.out HD6.out hF9 hF10 HSTO.out
    · rw [if_neg hput] at hres
      have p1 : (me == [80, 85, 84]) = false := beq_eq_false_iff_ne.2 hput
      have p2 : ¬ me = [80, 85, 84] := hput
      clear hput
      cases hrr : hReads me with
      | true =>
        have hrd2 := fun w' => HRD.out w'
        rw [hrr] at hres hrd2
        clear hrr HRD
        have HRD2 := Lib.hid hrd2
        clear hrd2
        go_upto_region 14 with (first
          | (refine wpList_load_agg agR rfl rfl rfl HBR3.out rfl ?_)
          | (go_at_call 32; refine (HRD2.out _).mono ?_; rintro e w4 ⟨rfl, hF4⟩))
        have hF04 := HF03.out.then_new Up.new hF4
        have hbr4 := HBR3.out.fresh hF4
        have hb4 := HB3.out.fresh hF4
        have hK4 := HK3.out.fresh hF4
        have hlr4 := hbr4.lt
        have hlm4 := hb4.lt
        have hlp4 := hK4.blk.lt
        have hp0 := hK4.blk.cell 0
        simp only [List.getElem?_toArray, List.getElem?_cons_zero] at hp0
        clear hy0 hy5 HBR3 HB3 HF03 HK3 HR3 hF4 HRD2 hlp3 hlr3 hlm3
        have hy0 := hbr4.cell 0
        simp only [List.getElem?_toArray, List.getElem?_cons_zero] at hy0
        have HBR4 := Lib.hid hbr4
        have HB4 := Lib.hid hb4
        have HF04 := Lib.hid hF04
        have HK4 := Lib.hid hK4
        clear hbr4 hb4 hF04 hK4
        rw [if_pos trivial] at hres
        by_cases hh : Here x L
        · obtain rfl : bo = true := by rw [HBO.out]; exact decide_eq_true hh
          have hlt : bi < L.length := by rw [HBI.out]; exact here_lt hh
          go_upto_region 16 with (fail)
          obtain ⟨gA, oA, rfl, hx⟩ := HK4.out.app.rd.at_ (k := bi * 2) (by rw [pcl_length]; omega)
          clear hx
          obtain ⟨_, hc1⟩ := pair_cells HK4.out.app.rd bi hlt
          have hyv := HK4.out.val _ (List.getElem_mem hlt)
          have hys := HK4.out.small _ (List.getElem_mem hlt)
          have hgA := World.block_lt_of_cell? _ _ hc1
          simp only at hgA
          generalize L[bi] = y at *
          obtain ⟨yk, yA, yc, yb⟩ := y
          simp only [SV.v] at hc1 hyv hys
          have hbo : ∀ (w' : World) (B : Option Addr) (n d : Nat), n ≤ 1099511627776 → Calls Tryz.prog 34 #[.agg #[.string ⟨me.toArray⟩, .string ⟨sc.toArray⟩, .string ⟨au.toArray⟩, .string ⟨pa.toArray⟩, .slice A1 fs.length c1, .slice A2 b.length c2, .slice A3 ts.length c3], .slice B n d, .slice none 0 0] w' (RAny w') := fun w' B n d h => rbody_any ⟨me, sc, au, pa, A1, c1, fs, A2, c2, b, A3, c3, ts⟩ B n d none 0 [] w' Rd.nil (Nat.zero_le _) h
          have hbli : (bi : Int) < (L.length : Int) := by omega
          have hSw : ∀ w', Frm (New w4) w4 w' → w'.cell? ⟨p, 0, none⟩ = some (.slice (some ⟨gA, oA, none⟩) L.length c) ∧ w'.cell? ⟨gA, oA + bi * 2 + 1, none⟩ = some (.slice yA yb.length yc) ∧ w'.cell? ⟨gr, 0, none⟩ = some (.string ⟨me.toArray⟩) ∧ w'.cell? ⟨gr, 1, none⟩ = some (.string ⟨sc.toArray⟩) ∧ w'.cell? ⟨gr, 2, none⟩ = some (.string ⟨au.toArray⟩) ∧ w'.cell? ⟨gr, 3, none⟩ = some (.string ⟨pa.toArray⟩) ∧ w'.cell? ⟨gr, 4, none⟩ = some (.slice A1 fs.length c1) ∧ w'.cell? ⟨gr, 5, none⟩ = some (.slice A2 b.length c2) ∧ w'.cell? ⟨gr, 6, none⟩ = some (.slice A3 ts.length c3) ∧ gA < w'.heap.size ∧ p < w'.heap.size ∧ gr < w'.heap.size := fun w' h => by
            have hb := HBR4.out.fresh h
            refine ⟨by rw [h.cell (p := ⟨p, 0, none⟩) (by show ¬ (w4.heap.size ≤ p); omega)]; exact hp0, by rw [h.cell (p := ⟨gA, oA + bi * 2 + 1, none⟩) (by show ¬ (w4.heap.size ≤ gA); omega)]; exact hc1, hb.cell 0, hb.cell 1, hb.cell 2, hb.cell 3, hb.cell 4, hb.cell 5, hb.cell 6, Nat.lt_of_lt_of_le hgA h.size, Nat.lt_of_lt_of_le hlp4 h.size, hb.lt⟩
          have hS0 := hSw w4.drew ((Frm.refl (New w4) w4).drew)
          have HYV := Lib.hid hyv
          have HYS := Lib.hid hys
          have HBOD := Lib.hid hbo
          have HSW := Lib.hid hSw
          clear hyv hys hbo hSw
          refine wp_region_til (by kernel_rfl) (fun w' => w'.cell? ⟨p, 0, none⟩ = some (.slice (some ⟨gA, oA, none⟩) L.length c) ∧ w'.cell? ⟨gA, oA + bi * 2 + 1, none⟩ = some (.slice yA yb.length yc) ∧ w'.cell? ⟨gr, 0, none⟩ = some (.string ⟨me.toArray⟩) ∧ w'.cell? ⟨gr, 1, none⟩ = some (.string ⟨sc.toArray⟩) ∧ w'.cell? ⟨gr, 2, none⟩ = some (.string ⟨au.toArray⟩) ∧ w'.cell? ⟨gr, 3, none⟩ = some (.string ⟨pa.toArray⟩) ∧ w'.cell? ⟨gr, 4, none⟩ = some (.slice A1 fs.length c1) ∧ w'.cell? ⟨gr, 5, none⟩ = some (.slice A2 b.length c2) ∧ w'.cell? ⟨gr, 6, none⟩ = some (.slice A3 ts.length c3) ∧ gA < w'.heap.size ∧ p < w'.heap.size ∧ gr < w'.heap.size) 11 ?_
          refine wpAnyT_take (i := 1) (v := ?_) (d := some 87) rfl (by rfl) (by kernel_rfl) (fun _ _ _ h => h) (by rfl) hS0 (fun w hSw => ?_) ?_
          rotate_left
          · (try dsimp only at hSw); go_simp; first | done | (with_reducible rfl)
          simp only [Act.put, List.setIfInBounds_toArray, List.set_cons_zero, List.set_cons_succ]
          refine wpAnyT_take (i := 2) (v := ?_) (d := some 88) rfl (by rfl) (by kernel_rfl) (fun _ _ _ h => h) (by rfl) hS0 (fun w hSw => ?_) ?_
          rotate_left
          · (try dsimp only at hSw); go_simp; first | done | (with_reducible rfl)
          simp only [Act.put, List.setIfInBounds_toArray, List.set_cons_zero, List.set_cons_succ]
          refine wpAnyT_take (i := 3) (v := ?_) (d := some 89) rfl (by rfl) (by kernel_rfl) (fun _ _ _ h => h) (by rfl) hS0 (fun w hSw => ?_) ?_
          rotate_left
          · (try dsimp only at hSw); go_simp; first | done | (with_reducible rfl)
          simp only [Act.put, List.setIfInBounds_toArray, List.set_cons_zero, List.set_cons_succ]
          refine wpAnyT_take (i := 4) (v := ?_) (d := some 90) rfl (by rfl) (by kernel_rfl) (fun _ _ _ h => h) (by rfl) hS0 (fun w hSw => ?_) ?_
          rotate_left
          · (try dsimp only at hSw); go_simp; first | done | (with_reducible rfl)
          simp only [Act.put, List.setIfInBounds_toArray, List.set_cons_zero, List.set_cons_succ]
          refine wpAnyT_take (i := 5) (v := ?_) (d := some 91) rfl (by rfl) (by kernel_rfl) (fun _ _ _ h => h) (by rfl) hS0 (fun w hSw => ?_) ?_
          rotate_left
          · (try dsimp only at hSw); go_simp; first | done | (with_reducible rfl)
          simp only [Act.put, List.setIfInBounds_toArray, List.set_cons_zero, List.set_cons_succ]
          refine wpAnyT_take (i := 6) (v := ?_) (d := some 92) rfl (by rfl) (by kernel_rfl) (fun _ _ _ h => h) (by rfl) hS0 (fun w hSw => ?_) ?_
          rotate_left
          · (try dsimp only at hSw); go_simp; first | done | (with_reducible rfl)
          simp only [Act.put, List.setIfInBounds_toArray, List.set_cons_zero, List.set_cons_succ]
          refine wpAnyT_take (i := 7) (v := ?_) (d := some 93) rfl (by rfl) (by kernel_rfl) (fun _ _ _ h => h) (by rfl) hS0 (fun w hSw => ?_) ?_
          rotate_left
          · (try dsimp only at hSw); go_simp; first | done | (with_reducible rfl)
          simp only [Act.put, List.setIfInBounds_toArray, List.set_cons_zero, List.set_cons_succ]
          refine wpAnyT_take (i := 8) (v := ?_) (d := some 94) rfl (by rfl) (by kernel_rfl) (fun _ _ _ h => h) (by rfl) hS0 (fun w hSw => ?_) ?_
          rotate_left
          · (try dsimp only at hSw); go_simp; first | done | (with_reducible rfl)
          simp only [Act.put, List.setIfInBounds_toArray, List.set_cons_zero, List.set_cons_succ]
          refine wpAnyT_take (i := 0) (v := ?_) (d := some 86) rfl (by rfl) (by kernel_rfl) (fun _ _ _ h => h) (by rfl) hS0 (fun w hSw => ?_) ?_
          rotate_left
          · (try dsimp only at hSw); go_simp; first | done | (with_reducible rfl)
          simp only [Act.put, List.setIfInBounds_toArray, List.set_cons_zero, List.set_cons_succ]
          refine wpAnyT_one (i := 9) rfl (by kernel_rfl) (fun K hK => ?_)
          (refine step_append2 (M := New w4.drew) (A := none) (n := 0) (c := 0) (xs := []) (news := bvs yb) u8s rfl rfl rfl App.none_ Up.new rfl HYV.out.drew (by simp [bvs]) (bvs_one _) (by have := HYS.out; omega) ?_; intro A5 c5 w5 hA5 hF5 _ _)
          refine hK.out _ _ (.inr ((HSW.out _ (((Frm.refl (New w4) w4).drew).trans hF5)))) ?_
          clear hK K
          have hF45 : Frm (New w4) w4 w5 := ((Frm.refl (New w4) w4).drew).trans hF5
          have hS5 := HSW.out _ hF45
          rw [Nat.zero_add]
          clear hA5 hF5
          refine wpAnyT_one (i := 10) rfl (by kernel_rfl) (fun K hKK => ?_)
          refine Eq.mpr (if_pos (by rfl)) ?_
          go_wp2_with (fail)
          refine (HBOD.out w5 A5 yb.length c5 HYS.out).mono ?_
          rintro e w9 ⟨X1, X2, X3, n1, n2, n3, k1, k2, k3, rfl, hF9⟩
          have hF49 := hF45.then_new Up.new hF9
          refine hKK.out _ _ (.inr (HSW.out _ hF49)) ?_
          clear hKK K hS0 hS5
          try simp only [Act.put, List.setIfInBounds_toArray, List.set_cons_zero, List.set_cons_succ]
          have hbx := HB4.out.fresh hF49
          refine wpAnyT_one (i := 11) rfl (by kernel_rfl) (fun K hKK => ?_)
          refine step_store_agg rfl rfl rfl rfl hbx rfl (msg_one _ _ _ _ _ _ _ _ _) (by kernel_rfl) ?_
          intro w10 hb10 hF10 hs10
          refine hKK.out _ _ (.inl (by kernel_rfl)) ?_
          clear hKK K
          refine wpAnyT_done (by kernel_rfl) ?_ _
          clear hc1 hp0 hy0
          go_wp2_with (fail)
          refine bodyPost_ret (results_agg agM rfl rfl hb10 rfl) rfl ?_
          exact RSR.same HK.out (HF04.out.newg hF49 hgw hF10) hres
        · obtain rfl : bo = false := by rw [HBO.out]; exact decide_eq_false hh
          go_wp2_with (first
            | (go_at_call 30; refine (HPL.out 404 (by decide) _).mono ?_; rintro e w9 ⟨X1, X2, X3, n1, n2, n3, k1, k2, k3, rfl, hF9⟩; have hbx := HB4.out.fresh hF9)
            | (refine wpList_store_agg rfl rfl rfl rfl hbx rfl (msg_one _ _ _ _ _ _ _ _ _) (by kernel_rfl) ?_; intro w10 hb10 hF10 hs10))
          refine bodyPost_ret (results_agg agM rfl rfl hb10 rfl) rfl ?_
          exact RSR.same HK.out (HF04.out.newg hF9 hgw hF10) hres
      | false =>
        have hrd2 := fun w' => HRD.out w'
        rw [hrr] at hres hrd2
        clear hrr HRD
        have HRD2 := Lib.hid hrd2
        clear hrd2
        go_upto_region 17 with (first
          | (refine wpList_load_agg agR rfl rfl rfl HBR3.out rfl ?_)
          | (go_at_call 32; refine (HRD2.out _).mono ?_; rintro e w4 ⟨rfl, hF4⟩))
        have hF04 := HF03.out.then_new Up.new hF4
        have hbr4 := HBR3.out.fresh hF4
        have hb4 := HB3.out.fresh hF4
        have hK4 := HK3.out.fresh hF4
        have hlr4 := hbr4.lt
        have hlm4 := hb4.lt
        have hlp4 := hK4.blk.lt
        have hp0 := hK4.blk.cell 0
        simp only [List.getElem?_toArray, List.getElem?_cons_zero] at hp0
        clear hy0 hy5 HBR3 HB3 HF03 HK3 HR3 hF4 HRD2 hlp3 hlr3 hlm3
        have hy0 := hbr4.cell 0
        simp only [List.getElem?_toArray, List.getElem?_cons_zero] at hy0
        have HBR4 := Lib.hid hbr4
        have HB4 := Lib.hid hb4
        have HF04 := Lib.hid hF04
        have HK4 := Lib.hid hK4
        clear hbr4 hb4 hF04 hK4
        rw [if_neg Bool.false_ne_true] at hres
        by_cases hd : me = bDEL
        · rw [if_pos hd] at hres
          subst hd
          by_cases hh : Here x L
          · have hlt : bi < L.length := by rw [HBI.out]; exact here_lt hh
            obtain rfl : bo = true := by rw [HBO.out]; exact decide_eq_true hh
            rw [if_pos (HHM.out.2 hh)] at hres
            obtain ⟨bj, hbj⟩ : ∃ bj, bj = bi + 1 := ⟨_, rfl⟩
            have hbc := HK4.out.app.cap
            have hbci : (bi : Int) ≤ (c : Int) := by omega
            have hbli : (bi : Int) ≤ (L.length : Int) := by omega
            have hbjl : (bj : Int) ≤ (L.length : Int) := by omega
            have hbjc : (bj : Int) ≤ (c : Int) := by omega
            have hwr : IntKind.i64.wrap ((bi : Int) + 1) = (bj : Int) := by rw [hbj]; exact wrap_small _ (by omega) (by omega)
            have hfz := HK4.out.blk.frozen 0
            have HBJ := Lib.hid hbj
            clear hbj
            go_upto_region 20 with (fail)
            have hSw : ∀ w', Frm (New w4) w4 w' → w'.cell? ⟨p, 0, none⟩ = some (.slice A L.length c) := fun w' h => by rw [h.cell (p := ⟨p, 0, none⟩) (by show ¬ (w4.heap.size ≤ p); omega)]; exact hp0
            have hS0 := hSw w4.drew ((Frm.refl (New w4) w4).drew)
            refine wp_region_til (by kernel_rfl) (fun w' => w'.cell? ⟨p, 0, none⟩ = some (.slice A L.length c)) 18 ?_
            refine wpAnyT_take (i := 0) (v := ?_) (d := some 104) rfl (by rfl) (by kernel_rfl) (fun _ _ _ h => h) (by rfl) hS0 (fun w hSw => ?_) ?_
            rotate_left
            · (try dsimp only at hSw); go_simp; first | done | (with_reducible rfl)
            simp only [Act.put, List.setIfInBounds_toArray, List.set_cons_zero, List.set_cons_succ]
            refine wpAnyT_take (i := 1) (v := ?_) (d := some 105) rfl (by rfl) (by kernel_rfl) (fun _ _ _ h => h) (by rfl) hS0 (fun w hSw => ?_) ?_
            rotate_left
            · (try dsimp only at hSw); go_simp; first | done | (with_reducible rfl)
            simp only [Act.put, List.setIfInBounds_toArray, List.set_cons_zero, List.set_cons_succ]
            refine wpAnyT_take (i := 2) (v := ?_) (d := some 106) rfl (by rfl) (by kernel_rfl) (fun _ _ _ h => h) (by rfl) hS0 (fun w hSw => ?_) ?_
            rotate_left
            · (try dsimp only at hSw); go_simp; first | done | (with_reducible rfl)
            simp only [Act.put, List.setIfInBounds_toArray, List.set_cons_zero, List.set_cons_succ]
            refine wpAnyT_take (i := 3) (v := ?_) (d := some 107) rfl (by rfl) (by kernel_rfl) (fun _ _ _ h => h) (by rfl) hS0 (fun w hSw => ?_) ?_
            rotate_left
            · (try dsimp only at hSw); go_simp; first | done | (with_reducible rfl)
            simp only [Act.put, List.setIfInBounds_toArray, List.set_cons_zero, List.set_cons_succ]
            refine wpAnyT_take (i := 4) (v := ?_) (d := some 108) rfl (by rfl) (by kernel_rfl) (fun _ _ _ h => h) (by rfl) hS0 (fun w hSw => ?_) ?_
            rotate_left
            · (try dsimp only at hSw); go_simp; first | done | (with_reducible rfl)
            simp only [Act.put, List.setIfInBounds_toArray, List.set_cons_zero, List.set_cons_succ]
            refine wpAnyT_take (i := 5) (v := ?_) (d := some 109) rfl (by rfl) (by kernel_rfl) (fun _ _ _ h => h) (by rfl) hS0 (fun w hSw => ?_) ?_
            rotate_left
            · (try dsimp only at hSw); go_simp; first | done | (with_reducible rfl)
            simp only [Act.put, List.setIfInBounds_toArray, List.set_cons_zero, List.set_cons_succ]
            refine wpAnyT_take (i := 6) (v := ?_) (d := some 110) rfl (by rfl) (by kernel_rfl) (fun _ _ _ h => h) (by rfl) hS0 (fun w hSw => ?_) ?_
            rotate_left
            · (try dsimp only at hSw); go_simp; first | done | (with_reducible rfl)
            simp only [Act.put, List.setIfInBounds_toArray, List.set_cons_zero, List.set_cons_succ]
            refine wpAnyT_take (i := 7) (v := ?_) (d := some 111) rfl (by rfl) (by kernel_rfl) (fun _ _ _ h => h) (by rfl) hS0 (fun w hSw => ?_) ?_
            rotate_left
            · (try dsimp only at hSw); go_simp; first | done | (with_reducible rfl)
            simp only [Act.put, List.setIfInBounds_toArray, List.set_cons_zero, List.set_cons_succ]
            refine wpAnyT_take (i := 8) (v := ?_) (d := some 112) rfl (by rfl) (by kernel_rfl) (fun _ _ _ h => h) (by rfl) hS0 (fun w hSw => ?_) ?_
            rotate_left
            · (try dsimp only at hSw); go_simp; first | done | (with_reducible rfl)
            simp only [Act.put, List.setIfInBounds_toArray, List.set_cons_zero, List.set_cons_succ]
            refine wpAnyT_take (i := 9) (v := ?_) (d := some 113) rfl (by rfl) (by kernel_rfl) (fun _ _ _ h => h) (by rfl) hS0 (fun w hSw => ?_) ?_
            rotate_left
            · (try dsimp only at hSw); go_simp; first | done | (with_reducible rfl)
            simp only [Act.put, List.setIfInBounds_toArray, List.set_cons_zero, List.set_cons_succ]
            refine wpAnyT_take (i := 10) (v := ?_) (d := some 114) rfl (by rfl) (by kernel_rfl) (fun _ _ _ h => h) (by rfl) hS0 (fun w hSw => ?_) ?_
            rotate_left
            · (try dsimp only at hSw); go_simp; first | done | (with_reducible rfl)
            simp only [Act.put, List.setIfInBounds_toArray, List.set_cons_zero, List.set_cons_succ]
            refine wpAnyT_take (i := 11) (v := ?_) (d := some 115) rfl (by rfl) (by kernel_rfl) (fun _ _ _ h => h) (by rfl) hS0 (fun w hSw => ?_) ?_
            rotate_left
            · (try dsimp only at hSw); go_simp; first | done | (with_reducible rfl)
            simp only [Act.put, List.setIfInBounds_toArray, List.set_cons_zero, List.set_cons_succ]
            refine wpAnyT_take (i := 12) (v := ?_) (d := some 116) rfl (by rfl) (by kernel_rfl) (fun _ _ _ h => h) (by rfl) hS0 (fun w hSw => ?_) ?_
            rotate_left
            · (try dsimp only at hSw); go_simp; first | done | (with_reducible rfl)
            simp only [Act.put, List.setIfInBounds_toArray, List.set_cons_zero, List.set_cons_succ]
            refine wpAnyT_take (i := 13) (v := ?_) (d := some 117) rfl (by rfl) (by kernel_rfl) (fun _ _ _ h => h) (by rfl) hS0 (fun w hSw => ?_) ?_
            rotate_left
            · (try dsimp only at hSw); go_simp; first | done | (with_reducible rfl)
            simp only [Act.put, List.setIfInBounds_toArray, List.set_cons_zero, List.set_cons_succ]
            refine wpAnyT_take (i := 14) (v := ?_) (d := some 118) rfl (by rfl) (by kernel_rfl) (fun _ _ _ h => h) (by rfl) hS0 (fun w hSw => ?_) ?_
            rotate_left
            · (try dsimp only at hSw); go_simp; first | done | (with_reducible rfl)
            simp only [Act.put, List.setIfInBounds_toArray, List.set_cons_zero, List.set_cons_succ]
            have hdrop : Rd w4 (if c = bj then A else A.map (·.add (bj * 2))) ((L.drop bj).flatMap pcl) := by
              rw [pcl_drop]
              exact cut_rd (n := L.length) HK4.out.app.rd (by rw [pcl_length]; omega) hbc bj
            have hdl : ((L.drop bj).flatMap pcl).length = (L.length - bj) * 2 := by rw [pcl_length, List.length_drop]
            have hcut0 : App (fun q => New w4 q ∨ blk A = some q) w4 90 2 A bi bi ((L.take bi).flatMap pcl) := by
              rw [pcl_take]
              exact (HK4.out.app.cutk bi hbl).to (fun q hq => .inr hq)
            have HDROP := Lib.hid hdrop
            have HCUT0 := Lib.hid hcut0
            have HSW := Lib.hid hSw
            clear hdrop hcut0 hSw
            refine wpAnyT_one (i := 15) rfl (by kernel_rfl) (fun K hK => ?_)
            (refine step_append2 (M := fun q => New w4 q ∨ blk A = some q) (A := A) (n := bi) (c := bi) (xs := (L.take bi).flatMap pcl) (news := (L.drop bj).flatMap pcl) pairs rfl rfl rfl HCUT0.out.drew (fun q hq => .inl hq) rfl HDROP.out.drew hdl (pcl_one _) (by omega) ?_; intro A9 c9 w9 hA9 _ hd9 hW9; have hF69 : Frm (New w4) w4 w9 := ((Frm.refl (New w4) w4).drew).trans (hW9.mono (fun q hq => by rcases hq with h | h; exact h; exact absurd h.1 (by omega))))
            refine hK.out _ _ (.inr ((HSW.out _ hF69))) ?_
            clear hK K
            have hd6 := HSW.out _ hF69
            have hS6 := hd6
            have hz6 : w9.frozen? ⟨p, 0, none⟩ = false := by rw [hF69.frozen (p := ⟨p, 0, none⟩) (by show ¬ (w4.heap.size ≤ p); omega)]; exact hfz
            have hg6 : p < w9.heap.size := by have := hF69.size; omega
            have hrow : (cutL x L).flatMap pcl = (L.take bi).flatMap pcl ++ (L.drop bj).flatMap pcl := by
              unfold cutL
              rw [← HBI.out, ← HBJ.out, List.flatMap_append]
            have hdd : M.blk A9 = M.blk A ∨ (0 < L.length - bj ∧ ∀ k, M.blk A9 = some k → w4.heap.size ≤ k) := by
              rcases hd9 with h | h
              · exact .inl h.1
              · refine .inr ⟨h.2, fun k hk => ?_⟩
                rw [h.1] at hk
                simp only [Option.some.injEq] at hk
                have : w4.drew.heap.size = w4.heap.size := rfl
                omega
            clear HDROP HCUT0 HSW hdl hd9 hW9
            have HA9 := Lib.hid hA9
            have HF69 := Lib.hid hF69
            have HROW := Lib.hid hrow
            have HDD := Lib.hid hdd
            clear hA9 hF69 hrow hdd
            refine wpAnyT_one (i := 16) rfl (by kernel_rfl) (fun K hK => ?_)
            go_simp
            refine hK.out _ _ (.inr (hS6)) ?_
            clear hK K
            refine wpAnyT_one (i := 17) rfl (by kernel_rfl) (fun K hK => ?_)
            go_simp
            refine hK.out _ _ (.inr (hS6)) ?_
            clear hK K
            refine wpAnyT_one (i := 18) rfl (by kernel_rfl) (fun K hK => ?_)
            go_simp
            refine hK.out _ _ (.inl (by kernel_rfl)) ?_
            clear hK K
            refine wpAnyT_done (by kernel_rfl) ?_ _
            clear hd6 hz6 hg6
            obtain ⟨L6, hL6⟩ : ∃ L6, L6 = cutL x L := ⟨_, rfl⟩
            have hlc := len_cut hh
            rw [← hL6] at hlc
            have hleq : bi + (L.length - bj) = L6.length := by have := HBJ.out; omega
            have hA10 : App (fun q => New w4 q ∨ blk A = some q) w9 90 2 A9 L6.length c9 (L6.flatMap pcl) := by
              have h := HA9.out
              rw [hleq] at h
              rw [hL6, HROW.out, ← hL6]
              exact h
            have hst := HK4.out.store (w0 := w4) hlp4 HF69.out hA10 (HDD.out.imp id (fun h => ⟨by omega, h.2⟩)) (fun y hy => by rw [hL6] at hy; exact .inl (mem_cut hy)) (by rw [hL6]; exact srt_cut HK.out.nd hh) (by omega)
            have hsto : sto L6 = res := by rw [hres, hL6]; exact cut_map (fun s : SV => s.b) x L
            have hd8 : M.blk A9 = M.blk A ∨ (∀ k, M.blk A9 = some k → w4.heap.size ≤ k) := HDD.out.imp id (fun h => h.2)
            have hb39 := (HB4.out.fresh HF69.out).far (p := ⟨p, 0, none⟩) (by simp only; omega) (.slice A9 L6.length c9)
            rw [hleq]
            clear hL6 hleq hres hS6 hA10 hp0
            generalize w9.setCell ⟨p, 0, none⟩ (.slice A9 L6.length c9) = w7 at *
            obtain ⟨hK7, hF67, ho7⟩ := hst
            have HK7 := Lib.hid hK7
            have HF67 := Lib.hid hF67
            have HO7 := Lib.hid ho7
            have HSTO := Lib.hid hsto
            have HD8 := Lib.hid hd8
            have HB39 := Lib.hid hb39
            clear hK7 hF67 ho7 hsto hd8 hb39
            go_wp2_with (first
              | (go_at_call 30; refine (HPL.out 204 (by decide) _).mono ?_; rintro e w19 ⟨X1, X2, X3, n1, n2, n3, k1, k2, k3, rfl, hF9⟩; have hbx := HB39.out.fresh hF9)
              | (refine wpList_store_agg rfl rfl rfl rfl hbx rfl (msg_one _ _ _ _ _ _ _ _ _) (by kernel_rfl) ?_; intro w10 hb10 hF10 hs10))
            all_goals refine bodyPost_ret (results_agg agM rfl rfl hb10 rfl) rfl ?_
            all_goals exact RSR.done HK.out HF04.out hgw hlm4 HK7.out HF67.out HO7.out HD8.out hF9 hF10 HSTO.out
          · obtain rfl : bo = false := by rw [HBO.out]; exact decide_eq_false hh
            rw [if_neg (fun e => hh (HHM.out.1 e))] at hres
            go_wp2_with (first
              | (go_at_call 30; refine (HPL.out 404 (by decide) _).mono ?_; rintro e w9 ⟨X1, X2, X3, n1, n2, n3, k1, k2, k3, rfl, hF9⟩; have hbx := HB4.out.fresh hF9)
              | (refine wpList_store_agg rfl rfl rfl rfl hbx rfl (msg_one _ _ _ _ _ _ _ _ _) (by kernel_rfl) ?_; intro w10 hb10 hF10 hs10))
            refine bodyPost_ret (results_agg agM rfl rfl hb10 rfl) rfl ?_
            exact RSR.same HK.out (HF04.out.newg hF9 hgw hF10) hres
        · rw [if_neg hd] at hres
          have d1 : (me == [68, 69, 76, 69, 84, 69]) = false := beq_eq_false_iff_ne.2 hd
          have d2 : ¬ me = [68, 69, 76, 69, 84, 69] := hd
          clear hd
          go_wp2_with (first
            | (go_at_call 33; refine (HAL.out 405 (by decide) _ _).mono ?_; rintro e w9 ⟨X1, X2, X3, n1, n2, n3, k1, k2, k3, rfl, hF9⟩; have hbx := HB4.out.fresh hF9)
            | (refine wpList_store_agg rfl rfl rfl rfl hbx rfl (msg_one _ _ _ _ _ _ _ _ _) (by kernel_rfl) ?_; intro w10 hb10 hF10 hs10))
          refine bodyPost_ret (results_agg agM rfl rfl hb10 rfl) rfl ?_
          exact RSR.same HK.out (HF04.out.newg hF9 hgw hF10) hres
end Go.Proofs.YtpojejdddgdjdaaGreatDoor.M
