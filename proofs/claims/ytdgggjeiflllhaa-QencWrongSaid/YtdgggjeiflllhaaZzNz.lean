/- Nz -/
import Derived.BigQuiet
import Derived.IntWalk
import Derived.Deep.CutBlock
import Derived.Deep.LoopGhost
import Derived.Below
import Derived.Test.YtdgggjeiflllhaaZzNu
import Derived.Test.YtdgggjeiflllhaaZzOn
import Derived.Test.YtdgggjeiflllhaaZzOe
import Derived.Test.YtdgggjeiflllhaaZzOg

namespace Go.Proofs.Ytdgggjeiflllhaa.M
open Go.ChangeShapes Go.WideShapes Go.ChangeAt Go.RowKit
section
variable {W : World} {H : Type} {en : TypeId × Value → H} {base : Nat} {spare : Nat → Bool} {held : Bool}
theorem fields_trod {fuel : Nat} {v : Value} {x : DataW H × List MemPlace} (h : DataW.trod en Try.prog W base spare held fuel 30 [v] = some x) (hw : ∀ q ∈ x.1.weights Try.prog 30, q ≤ reachBytes) :
    ∃ (A : Option Addr) (n c : Nat) (l : List Fld), v = .slice A n c ∧ AIn W fcells FldOk A n c l :=
  rows_trod Try.underlying30 (k := 2) (by kernel_rfl) (by omega) fcells (fun _ => rfl) FldOk fld_trod h hw
end
structure EE (w0 w : World) (X : Nat → Prop) (pe g bm : Nat) (E : Qn) (Y : Nat → Prop) (po go_ : Nat) (F : Qn) : Prop where
  e : QNt w0 w X pe g bm E
  o : ∃ (S : Nat → Prop) (Ao : Option Addr) (co : Nat) (l : List Ou) (Ar : Option Addr) (cr : Nat), OnM Y w po go_ S Ao co l Ar cr F
  low : ∀ k, Y k → w0.heap.size ≤ k
  dis : ∀ k, X k → ¬ Y k
section
variable {w0 w w' : World} {X X' Y Y' : Nat → Prop} {pe g bm po go_ : Nat} {E E' F F' : Qn}
theorem EE.fresh (h : EE w0 w X pe g bm E Y po go_ F) (f : Frm (New w) w w') : EE w0 w' X pe g bm E Y po go_ F := by
  obtain ⟨S, Ao, co, l, Ar, cr, ho⟩ := h.o
  exact ⟨h.e.fresh f, ⟨S, Ao, co, l, Ar, cr, ho.fresh f⟩, h.low, h.dis⟩
theorem EE.ol (h : EE w0 w X pe g bm E Y po go_ F) : ∀ k, Y k → k < w.heap.size := by
  obtain ⟨S, Ao, co, l, Ar, cr, ho⟩ := h.o
  exact ho.low
theorem EE.prog (h : EE w0 w X pe g bm E Y po go_ F) (he : QNt w0 w' X' pe g bm E') (f : Frm (Own X w) w w') (hs : ∀ k, X' k → Own X w k) : EE w0 w' X' pe g bm E' Y po go_ F := by
  have hol := h.ol
  obtain ⟨S, Ao, co, l, Ar, cr, ho⟩ := h.o
  have hno : ∀ k, Y k → ¬ Own X w k := fun k hk e => by
    rcases e with e | e
    · exact h.dis k e hk
    · have := hol k hk; have e : w.heap.size ≤ k := e; omega
  exact ⟨he, ⟨S, Ao, co, l, Ar, cr, ho.keep f hno⟩, h.low, fun k hk hy => hno k hy (hs k hk)⟩
theorem EE.doc (h : EE w0 w X pe g bm E Y po go_ F) {S : Nat → Prop} {Ao : Option Addr} {co : Nat} {l : List Ou} {Ar : Option Addr} {cr : Nat} (ho : OnM Y' w' po go_ S Ao co l Ar cr F') (f : Frm (Own Y w) w w') (hs : ∀ k, Y' k → Own Y w k) : EE w0 w' X pe g bm E Y' po go_ F' := by
  have hno : ∀ k, X k → ¬ Own Y w k := fun k hk e => by
    rcases e with e | e
    · exact h.dis k hk e
    · have := h.e.blow k hk; have e : w.heap.size ≤ k := e; omega
  have hl : ∀ k, Own Y w k → New w0 k := fun k hk => by
    rcases hk with e | e
    · exact h.low k e
    · exact Nat.le_trans h.e.frm.size e
  obtain ⟨⟨Se, Are, cre, L, h1⟩, h2, h3⟩ := h.e
  exact ⟨⟨⟨Se, Are, cre, L, h1.keep f hno⟩, h2.trans (f.mono hl), h3⟩, ⟨S, Ao, co, l, Ar, cr, ho⟩, fun k hk => hl k (hs k hk), fun k hk e => hno k hk (hs k e)⟩
theorem EE.onew (h : QNt w0 w X pe g bm E) {S : Nat → Prop} {Ao : Option Addr} {co : Nat} {l : List Ou} {Ar : Option Addr} {cr : Nat} (ho : OnM Y w' po go_ S Ao co l Ar cr F) (f : Frm (New w) w w') (hy : ∀ k, Y k → w.heap.size ≤ k) : EE w0 w' X pe g bm E Y po go_ F :=
  ⟨h.fresh f, ⟨S, Ao, co, l, Ar, cr, ho⟩, fun k hk => Nat.le_trans h.frm.size (hy k hk), fun k hk e => by have := h.blow k hk; have := hy k e; omega⟩
theorem EE.ofeed (h : EE w0 w X pe g bm E Y po go_ F) (b : Bytes) (A : Option Addr) (c : Nat) (hR : Rd w A (bvs b)) (hlen : F.rest.length + b.length ≤ 1073741824) :
    Calls Try.prog 23 #[.pointer (some ⟨po, 0, none⟩), .slice A b.length c] w fun e w' => e = .returned (.int .i64 ((F.feed b).1 : Nat)) ∧ Frm (Own Y w) w w' ∧ ∃ Y', EE w0 w' X pe g bm E Y' po go_ (F.feed b).2 := by
  have h0 := h
  obtain ⟨S, Ao, co, l, Ar, cr, ho⟩ := h.o
  refine (ofeed_any ho b A c hR hlen).mono ?_
  rintro e w' ⟨rfl, X', S', Ao', co', l', Ar', cr', h1, h2, h3⟩
  exact ⟨rfl, h2, X', h0.doc h1 h2 h3⟩
theorem EE.oenc (h : EE w0 w X pe g bm E Y po go_ F) (s : Nat) (l : List Fld) (A : Option Addr) (c : Nat) (hR : Rd w A (fvs l)) (hAY : ∀ k, M.blk A = some k → l ≠ [] → ¬ Y k) (hl : l.length ≤ 1000) (hf : ∀ f ∈ l, f.1.length + f.2.length ≤ 100000) (hn : F.t.n + l.length ≤ 1152921504606846976) (hop : F.opn.length < 1073741824) :
    Calls Try.prog 22 #[.pointer (some ⟨po, 0, none⟩), .int .u64 (s : Int), .slice A l.length c] w fun e w' => (∃ v, e = .returned v) ∧ Frm (Own Y w) w w' ∧ ∃ Y', EE w0 w' X pe g bm E Y' po go_ (F.enc s l).2 := by
  have h0 := h
  obtain ⟨S, Ao, co, ol, Ar, cr, ho⟩ := h.o
  refine (oenc_any ho s l A c hR hAY hl hf hn hop).mono ?_
  rintro e w' ⟨A1, c1, A2, c2, X', S', Ao', co', ol', rfl, _, _, _, _, h1, h2, h3, _⟩
  exact ⟨⟨_, rfl⟩, h2, X', h0.doc h1 h2 h3⟩
end
theorem rdp_err (b : Bytes) (k : Nat) : (rdp b k).2.2 ≤ 26 := by
  cases b with
  | nil => unfold rdp; simp
  | cons c r =>
    unfold rdp
    simp only
    split
    · simp
    · rcases rdMore_err r 10 1 (2 ^ k - 1) with h | h | h <;> simp [h]
theorem insE_facts (E : Qn) (r : Bytes) : (E.ins r).1 ≤ 26 ∧ (E.ins r).2.2.err = E.err := by
  have h := rdp_err r (if 128 ≤ (r.headD 0).toNat then 7 else 6)
  unfold Qn.ins
  generalize rdp r (if 128 ≤ (r.headD 0).toNat then 7 else 6) = z at *
  obtain ⟨n, k, e⟩ := z
  simp only at h ⊢
  split
  · exact ⟨h, rfl⟩
  · split
    · split <;> simp
    · split
      · simp
      · split <;> simp
theorem feedN_err : ∀ (f : Nat) (E : Qn) (r : Bytes), E.err = 0 → (feedN f E r).1 ≤ 26 ∧ ((feedN f E r).1 ≠ 0 → (feedN f E r).2.err = (feedN f E r).1) ∧ (feedN f E r).2.err ≤ 26 ∧ (feedN f E r).2.rest.length ≤ r.length
  | 0, E, [], h => ⟨Nat.zero_le _, fun e => absurd rfl e, by show E.err ≤ _; omega, Nat.le_refl _⟩
  | _ + 1, E, [], h => ⟨Nat.zero_le _, fun e => absurd rfl e, by show E.err ≤ _; omega, Nat.le_refl _⟩
  | 0, E, _ :: _, h => ⟨Nat.zero_le _, fun e => absurd rfl e, by show E.err ≤ _; omega, Nat.le_refl _⟩
  | f + 1, E, c :: r, h => by
    obtain ⟨h1, h2⟩ := insE_facts E (c :: r)
    rw [feedN_cons f E (c :: r) (by simp)]
    split
    · have h3 := feedN_err f (E.ins (c :: r)).2.2 ((c :: r).drop (E.ins (c :: r)).2.1) (by rw [h2]; exact h)
      exact ⟨h3.1, h3.2.1, h3.2.2.1, Nat.le_trans h3.2.2.2 (by rw [List.length_drop]; omega)⟩
    · split
      · exact ⟨Nat.zero_le _, fun e => absurd rfl e, by show E.err ≤ _; omega, Nat.le_refl _⟩
      · exact ⟨h1, fun _ => rfl, h1, Nat.le_refl _⟩
theorem feed_twice (E : Qn) (b c : Bytes) (h : E.err = 0) (hr : E.rest = []) : (E.feed b).2.err ≤ 26 ∧ (E.feed b).2.rest.length ≤ b.length ∧ ((E.feed b).1 = 0 ∨ ((E.feed b).2.feed c).1 = (E.feed b).1) := by
  have hf := feedN_err (E.rest ++ b).length E (E.rest ++ b) h
  rw [← feed_eq E b h] at hf
  rw [hr, List.nil_append] at hf
  refine ⟨hf.2.2.1, hf.2.2.2, ?_⟩
  by_cases h0 : (E.feed b).1 = 0
  · exact .inl h0
  · refine .inr ?_
    have he := hf.2.1 h0
    unfold Qn.feed
    unfold Qn.feed at he h0
    rw [he, if_pos h0]
theorem or_byte (m : Nat) (hm : m < 8) : (∃ c : UInt8, bits .or .u8 128 (m : Int) = (c.toNat : Int)) ∧ ∃ c : UInt8, bits .or .u8 64 (m : Int) = (c.toNat : Int) := by
  have h : m = 0 ∨ m = 1 ∨ m = 2 ∨ m = 3 ∨ m = 4 ∨ m = 5 ∨ m = 6 ∨ m = 7 := by omega
  rcases h with rfl | rfl | rfl | rfl | rfl | rfl | rfl | rfl
  · exact ⟨⟨128, by kernel_rfl⟩, ⟨64, by kernel_rfl⟩⟩
  · exact ⟨⟨129, by kernel_rfl⟩, ⟨65, by kernel_rfl⟩⟩
  · exact ⟨⟨130, by kernel_rfl⟩, ⟨66, by kernel_rfl⟩⟩
  · exact ⟨⟨131, by kernel_rfl⟩, ⟨67, by kernel_rfl⟩⟩
  · exact ⟨⟨132, by kernel_rfl⟩, ⟨68, by kernel_rfl⟩⟩
  · exact ⟨⟨133, by kernel_rfl⟩, ⟨69, by kernel_rfl⟩⟩
  · exact ⟨⟨134, by kernel_rfl⟩, ⟨70, by kernel_rfl⟩⟩
  · exact ⟨⟨135, by kernel_rfl⟩, ⟨71, by kernel_rfl⟩⟩
set_option maxRecDepth 100000 in
set_option maxHeartbeats 16000000 in
theorem wrong_walk (ik is_ in_ : Int) (A1 : Option Addr) (n1 c1 : Nat) (l : List Fld) (W : World) (hvk : (Lit.int .u8 ik).wf = true) (hvs : (Lit.int .u8 is_).wf = true) (hvn : (Lit.int .u8 in_).wf = true) (h1 : AIn W fcells FldOk A1 n1 c1 l) :
    Calls Try.prog 5 #[.int .u8 ik, .int .u8 is_, .int .u8 in_, .slice A1 n1 c1] W fun e w' => e = .returned (.bool true) ∧ Below W.heap.size W w' := by
  obtain ⟨hn1, hR1, hcap1, hmax1, hok1⟩ := h1
  subst hn1
  rw [fcells_fvs] at hR1
  unfold maxLen at hmax1
  obtain ⟨k0, k1⟩ := bounds_u8 hvk
  obtain ⟨s0, s1⟩ := bounds_u8 hvs
  obtain ⟨m0, m1⟩ := bounds_u8 hvn
  obtain ⟨ik, rfl⟩ := Int.eq_ofNat_of_zero_le k0
  obtain ⟨is_, rfl⟩ := Int.eq_ofNat_of_zero_le s0
  obtain ⟨in_, rfl⟩ := Int.eq_ofNat_of_zero_le m0
  obtain ⟨kq, hkq4, hkq⟩ : ∃ kq : Nat, kq < 4 ∧ (ik : Int) % 4 = (kq : Int) := ⟨ik % 4, by omega, by omega⟩
  obtain ⟨sq, hsq8, hsq⟩ : ∃ kq : Nat, kq < 8 ∧ (is_ : Int) % 8 = (kq : Int) := ⟨is_ % 8, by omega, by omega⟩
  obtain ⟨⟨x1, hx1⟩, ⟨x2, hx2⟩⟩ := or_byte sq hsq8
  obtain ⟨x3, hx3⟩ : ∃ c : UInt8, (in_ : Int) % 8 = (c.toNat : Int) := ⟨UInt8.ofNat (in_ % 8), by rw [UInt8.toNat_ofNat']; omega⟩
  clear hvk hvs hvn k0 k1 s0 s1 m0 m1
  have HR1 := Lib.hid hR1
  have HOK1 := Lib.hid hok1
  clear hR1 hok1
  go_enter Try.func5, Try.ntmps5
  go_wp2_with (fail)
  refine (known9_any _).mono ?_
  rintro e w1 ⟨rfl, hF1⟩
  have HF1 := Lib.hid hF1
  clear hF1
  by_cases q1 : 6 < l.length
  · go_wp2
    go_ret
    exact ⟨rfl, HF1.out.below⟩
  have hL := light_any l A1 c1 w1 (HR1.out.fresh HF1.out) HOK1.out (by omega)
  cases hli : light l with
  | false =>
    rw [hli] at hL
    have HL := Lib.hid hL
    have HLI := Lib.hid hli
    clear hL hli
    go_wp2_with (fail)
    refine HL.out.mono ?_
    rintro e w2 ⟨rfl, hF2⟩
    go_wp2
    go_ret
    exact ⟨rfl, (HF1.out.then_new Up.new hF2).below⟩
  | true =>
    rw [hli] at hL
    have hfl := light_in hli
    have HL := Lib.hid hL
    have HLI := Lib.hid hli
    have HFL := Lib.hid hfl
    clear hL hli hfl
    go_wp2_with (fail)
    refine HL.out.mono ?_
    rintro e w2 ⟨rfl, hF2⟩
    have hF2 := HF1.out.then_new Up.new hF2
    have hnw := kqn_new 4096 2 (by omega) (by omega) (by omega) (by omega) W w2 hF2
    rw [show Qn.new (lim 4096) (max (2 : Int) 0).toNat = Qn.new 4096 2 by rfl] at hnw
    have HNW := Lib.hid hnw
    clear hnw
    clear HL hF2
    go_wp2_with (fail)
    refine HNW.out.mono ?_
    rintro e w3 ⟨X, pe, g, bm, rfl, hK, hF3, _⟩
    have hon := onew_any 4096 2 (by omega) (by omega) (by omega) (by omega) w3
    rw [show lim 4096 = 4096 by rfl, show (max (2 : Int) 0).toNat = 2 by rfl] at hon
    have HK := Lib.hid hK
    have HON := Lib.hid hon
    clear hK hon
    clear hF3
    go_wp2_with (fail)
    refine HON.out.mono ?_
    rintro e w4 ⟨Y, po, g2, S, rfl, ho, hF4, hy4⟩
    have hE := EE.onew HK.out ho hF4 hy4
    have hlow : ∀ k, M.blk A1 = some k → l ≠ [] → k < W.heap.size := fun b hb hne => by
      obtain ⟨gg, off, q, hlt⟩ := HR1.out.lt (by
        cases l with
        | nil => exact absurd rfl hne
        | cons x r => simp [fvs])
      rw [q] at hb
      have hgb : gg = b := by simpa using hb
      subst hgb
      exact hlt
    have hen := kqn_enc hE.e 1 l A1 c1 (HR1.out.fresh hE.e.frm) (fun b hb hne e => by
      have := hlow b hb hne
      have := hE.e.low _ e
      omega) (by omega) HFL.out (by show 0 + l.length ≤ _; omega) (Nat.zero_le _)
    rw [show ((1 : Nat) : Int) = 1 from rfl] at hen
    have HE := Lib.hid hE
    have HEN := Lib.hid hen
    have HLOW := Lib.hid hlow
    clear hE hen hlow
    clear ho hF4 hy4 HON HK
    go_wp2_with (fail)
    refine HEN.out.mono ?_
    rintro e w5 ⟨X5, A5, c5, A6, c6, hK5, rfl, _, _, _, _, _, _, hF5, hs5, _⟩
    have hE5 := HE.out.prog hK5 hF5 hs5
    have hen2 := hE5.oenc 1 l A1 c1 (HR1.out.fresh hE5.e.frm) (fun b hb hne e => by
      have := HLOW.out b hb hne
      have := hE5.low _ e
      omega) (by omega) HFL.out (by show 0 + l.length ≤ _; omega) (by show 0 < _; omega)
    rw [show ((1 : Nat) : Int) = 1 from rfl] at hen2
    have HE5 := Lib.hid hE5
    have HEN2 := Lib.hid hen2
    clear hE5 hen2
    clear hK5 hF5 hs5 HEN
    go_wp2_with (fail)
    refine HEN2.out.mono ?_
    rintro e w6 ⟨⟨v6, rfl⟩, _, Y6, hE6⟩
    have hz6 : ((Qn.new 4096 2).enc 1 l).2.err = 0 := rfl
    have hr6 : ((Qn.new 4096 2).enc 1 l).2.rest = [] := rfl
    generalize ((Qn.new 4096 2).enc 1 l).2 = E at *
    have HE6 := Lib.hid hE6
    have HZ6 := Lib.hid hz6
    have HR6 := Lib.hid hr6
    clear hE6 hz6 hr6
    clear HEN2
    go_upto_region 8 with (fail)
    go_cut [11] from 34 to 47 (fun v11 w' => ∃ (c : UInt8) (gb : Nat), v11 = .slice (some ⟨gb, 0, none⟩) 1 1 ∧ Hid (EE W w' X5 pe g bm E Y6 po g2 E) ∧ Hid (Rd w' (some ⟨gb, 0, none⟩) (bvs [c])) ∧ Hid (¬ X5 gb ∧ ¬ Y6 gb ∧ gb < w'.heap.size))
    case first =>
      have hsz : ∀ (w : World) o, (w.alloc o).heap.size = w.heap.size + 1 := fun w o => by simp
      have key : ∀ (w : World) (o : Obj) (c : UInt8) (v : Int), v = (c.toNat : Int) → Rd ((w.alloc o).alloc (Obj.cells #[.int .u8 v] 5)) (some ⟨w.heap.size + 1, 0, none⟩) (bvs [c]) := fun w o c v hv => by
        subst hv
        rw [← hsz w o]
        exact Rd.new (w.alloc o) #[.int .u8 (c.toNat : Int)] 5
      have hq : kq = 0 ∨ kq = 1 ∨ kq = 2 ∨ kq = 3 := by omega
      have hap : ∀ w o o2, EE W w X5 pe g bm E Y6 po g2 E → ¬ X5 (w.heap.size + 1) ∧ ¬ Y6 (w.heap.size + 1) ∧ w.heap.size + 1 < ((w.alloc o).alloc o2).heap.size := fun w o o2 h =>
        ⟨fun e => by have := h.e.blow _ e; omega, fun e => by have := h.ol _ e; omega, by rw [hsz, hsz]; omega⟩
      have KEY := Lib.hid key
      have HAP := Lib.hid hap
      clear key hap
      rcases hq with rfl | rfl | rfl | rfl
      all_goals
        go_wp2_with (fail)
        go_meet
      · exact ⟨x1, _, rfl, Lib.hid (HE6.out.fresh (((Frm.refl _ _).alloc Up.new _).alloc Up.new _)), Lib.hid (KEY.out _ _ x1 _ rfl), Lib.hid (HAP.out _ _ _ HE6.out)⟩
      · exact ⟨x2, _, rfl, Lib.hid (HE6.out.fresh (((Frm.refl _ _).alloc Up.new _).alloc Up.new _)), Lib.hid (KEY.out _ _ x2 _ rfl), Lib.hid (HAP.out _ _ _ HE6.out)⟩
      · exact ⟨x3, _, rfl, Lib.hid (HE6.out.fresh (((Frm.refl _ _).alloc Up.new _).alloc Up.new _)), Lib.hid (KEY.out _ _ x3 _ rfl), Lib.hid (HAP.out _ _ _ HE6.out)⟩
      · exact ⟨0, _, rfl, Lib.hid (HE6.out.fresh (((Frm.refl _ _).alloc Up.new _).alloc Up.new _)), Lib.hid (KEY.out _ _ 0 _ rfl), Lib.hid (HAP.out _ _ _ HE6.out)⟩
    case rest =>
      obtain ⟨c, gb, rfl, hE7, hR7, hap⟩ := hcut
      rename World => w7
      clear HE6
      obtain ⟨hfe, hfr, hfz⟩ := feed_twice E [c] [65] HZ6.out HR6.out
      have hkf := kqn_feed hE7.out.e [c] (some ⟨gb, 0, none⟩) 1 hR7.out (by rw [HR6.out]; simp)
      have hof : ∀ w8 X8, EE W w8 X8 pe g bm (E.feed [c]).2 Y6 po g2 E → Rd w8 (some ⟨gb, 0, none⟩) (bvs [c]) → Calls Try.prog 23 #[.pointer (some ⟨po, 0, none⟩), .slice (some ⟨gb, 0, none⟩) 1 1] w8 fun e w' => e = .returned (.int .i64 ((E.feed [c]).1 : Nat)) ∧ Frm (Own Y6 w8) w8 w' ∧ ∃ Y', EE W w' X8 pe g bm (E.feed [c]).2 Y' po g2 (E.feed [c]).2 :=
        fun w8 X8 h hr => h.ofeed [c] (some ⟨gb, 0, none⟩) 1 hr (by rw [HR6.out]; simp)
      rw [show ([c] : Bytes).length = 1 from rfl] at hkf hfr
      generalize E.feed [c] = R at *
      obtain ⟨x, E2⟩ := R
      simp only at hkf hof hfe hfr hfz
      have HKF := Lib.hid hkf
      have HOF := Lib.hid hof
      have HAP := Lib.hid hap
      have HFE := Lib.hid hfe
      have HFR := Lib.hid hfr
      clear hkf hof hap hfe hfr
      go_wp2_with (fail)
      refine HKF.out.mono ?_
      rintro e w8 ⟨rfl, X8, hK8, hF8, hs8⟩
      have hE8 := hE7.out.prog hK8 hF8 hs8
      have hR8 := hR7.out.keep hF8 (fun k hk e => by
        have hgk : gb = k := by simpa using hk
        subst hgk
        rcases e with e | e
        · exact HAP.out.1 e
        · exact Nat.not_lt.2 e HAP.out.2.2)
      have hof2 := HOF.out w8 X8 hE8 hR8
      have HOF2 := Lib.hid hof2
      clear hof2
      clear HKF hE7 hR7 hK8 hF8 hs8 hE8 hR8 HOF
      go_wp2_with (fail)
      refine HOF2.out.mono ?_
      rintro e w9 ⟨rfl, _, Y9, hE9⟩
      have hF1 : ∀ w : World, Frm (New w) w (w.alloc (Obj.cells #[.int .u8 65] 5)) := fun w => (Frm.refl _ _).alloc Up.new _
      have hk2 := kqn_feed2 hE9.e [65] #[.int .u8 65] rfl 1 rfl (by have := HFR.out; show E2.rest.length + 1 ≤ _; omega)
      have ho2 : ∀ w X8 E3, EE W w X8 pe g bm E3 Y9 po g2 E2 → Calls Try.prog 23 #[.pointer (some ⟨po, 0, none⟩), .slice (some ⟨w.heap.size, 0, none⟩) 1 1] (w.alloc (Obj.cells #[.int .u8 65] 5)) fun e w' => e = .returned (.int .i64 ((E2.feed [65]).1 : Nat)) ∧ Frm (Own Y9 (w.alloc (Obj.cells #[.int .u8 65] 5))) (w.alloc (Obj.cells #[.int .u8 65] 5)) w' ∧ ∃ Y', EE W w' X8 pe g bm E3 Y' po g2 (E2.feed [65]).2 :=
        fun w X8 E3 h => (h.fresh (hF1 w)).ofeed [65] _ 1 (Rd.new w #[.int .u8 65] 5) (by have := HFR.out; show E2.rest.length + 1 ≤ _; omega)
      generalize E2.feed [65] = R at *
      obtain ⟨z, E3⟩ := R
      simp only at hk2 ho2 hfz
      have HE9 := Lib.hid hE9
      have HF1 := Lib.hid hF1
      have HK2 := Lib.hid hk2
      have HO2 := Lib.hid ho2
      clear hE9 hF1 hk2 ho2
      clear HOF2
      go_wp2_with (fail)
      refine HK2.out.mono ?_
      rintro e w10 ⟨rfl, X10, hK10, hF10, hs10⟩
      have hE10 := (HE9.out.fresh (HF1.out _)).prog hK10 hF10 hs10
      have ho2 := HO2.out _ _ _ hE10
      have HO2 := Lib.hid ho2
      clear ho2
      clear HE9 HF1 HK2 hK10 hF10 hs10 hE10
      go_wp2_with (fail)
      refine HO2.out.mono ?_
      rintro e w11 ⟨rfl, _, Y11, hE11⟩
      clear HO2
      have hkn : ∀ w', Frm (New w11) w11 w' → Calls Try.prog 20 #[.pointer (some ⟨pe, 0, none⟩)] w' fun e w2 => e = .returned (.int .u64 (E3.known : Int)) ∧ w2 = w' := fun w' f => kqn_known (hE11.e.fresh f)
      obtain ⟨S, Ao, co, ol, Ar, cr, ho⟩ := hE11.o
      have hb := ho.blk
      have hy2 := hb.cell 2
      simp only [List.getElem?_toArray, List.getElem?_cons_zero, List.getElem?_cons_succ] at hy2
      have hpl := hb.lt
      have hbw := fun n => (hE11.e.frm.drewN n).below
      have HKN := Lib.hid hkn
      have HE11 := Lib.hid hE11
      have HO := Lib.hid ho
      have HB := Lib.hid hb
      have HBW := Lib.hid hbw
      clear hkn hE11 ho hb hbw
      by_cases hx0 : x = 0
      · subst hx0
        clear hfz
        go_upto_region 11 with (fail)
        go_quiet ((go_at_call 20; refine Calls.quiet_of_same (HKN.out _ ?_); exact (Frm.refl _ _).drewN _))
        all_goals go_wp2
        all_goals go_ret
        all_goals exact ⟨rfl, HBW.out _⟩
      · have hzx : z = x := hfz.resolve_left hx0
        subst hzx
        have hxi : ¬ (z : Int) = 0 := by omega
        go_upto_region 11 with (fail)
        go_quiet ((go_at_call 20; refine Calls.quiet_of_same (HKN.out _ ?_); exact (Frm.refl _ _).drewN _))
        all_goals go_wp2
        all_goals go_ret
        all_goals exact ⟨rfl, HBW.out _⟩
end Go.Proofs.Ytdgggjeiflllhaa.M

