/- HandlerClones: the walk. No condition but the library's table. -/
import Derived.BigQuiet
import Derived.Deep.CutBlock
import Derived.Lib.Hide
import Derived.IntWalk
import Derived.Test.YtpojejdddgdjdaaGreatDoorHbj
import Derived.Test.YtpojejdddgdjdaaGreatDoorHbi
import Derived.Test.YtpojejdddgdjdaaGreatDoorHam
import Derived.Test.YtpojejdddgdjdaaGreatDoorSaz
import Derived.Test.YtpojejdddgdjdaaGreatDoorSro
namespace Go.Proofs.YtpojejdddgdjdaaGreatDoor.M
open Go.ChangeShapes Go.WideShapes Go.ChangeAt Go.RowKit

def MV.cl (m : MV) : List Value := [.slice m.A1 m.fs.length m.c1, .slice m.A2 m.b.length m.c2, .slice m.A3 m.ts.length m.c3]
instance : Inhabited MV := ⟨⟨none, 0, [], none, 0, [], none, 0, []⟩⟩
theorem msgs_trod {W : World} {H : Type} {en : TypeId × Value → H} {base : Nat} {spare : Nat → Bool} {held : Bool} {fuel : Nat} {v : Value} {x : DataW H × List MemPlace} (h : DataW.trod en Tryz.prog W base spare held fuel 22 [v] = some x) (hw : ∀ q ∈ x.1.weights Tryz.prog 22, q ≤ reachBytes) :
    ∃ (A : Option Addr) (n c : Nat) (l : List MV), v = .slice A n c ∧ AIn W MV.cl (MArg W) A n c l :=
  rows_trod Tryz.underlying22 (k := 3) (by kernel_rfl) (by omega) MV.cl (fun _ => rfl) (MArg W) (fun fu cs y hy hq => by
    obtain ⟨m, e, hm⟩ := msg_trod fu cs y hy hq
    exact ⟨m, e, hm⟩) h hw
theorem msg_cells {w : World} {g off : Nat} {l : List MV} (h : Rd w (some ⟨g, off, none⟩) (l.flatMap MV.cl)) (i : Nat) (hi : i < l.length) :
    w.cell? ⟨g, off + i * 3, none⟩ = some (.slice l[i].A1 l[i].fs.length l[i].c1) ∧ w.cell? ⟨g, off + i * 3 + 1, none⟩ = some (.slice l[i].A2 l[i].b.length l[i].c2) ∧ w.cell? ⟨g, off + i * 3 + 2, none⟩ = some (.slice l[i].A3 l[i].ts.length l[i].c3) := by
  have key := elem_cells MV.cl 3 (fun _ => rfl) h i hi
  exact ⟨key 0 _ (by omega) rfl, key 1 _ (by omega) rfl, key 2 _ (by omega) rfl⟩
theorem val_in_ (S : List Fld) (nm : Bytes) : val S nm = [] ∨ (nm, val S nm) ∈ S := by
  unfold val
  cases h : S.find? (fun f => decide (f.1 = nm)) with
  | none => exact .inl rfl
  | some f =>
    right
    have h1 := List.mem_of_find?_eq_some h
    have h2 := List.find?_some h
    simp only [decide_eq_true_eq] at h2
    show (nm, f.2) ∈ S
    rw [← h2]
    exact h1
/-- what is known of a good request -/
theorem good_rq {m : MV} (h : rcls m = 0) : (rq m).b = m.b ∧ (rq m).ts = m.ts ∧ m.b.length ≤ 8192 ∧ (∀ f ∈ (rq m).fs, f ∈ m.fs ∧ valOk f.2 = true) ∧ valOk (rq m).pa = true ∧ trailOk (rq m).ts = true ∧ (∀ nm, ((rq m).me = val (spS m.fs) bMe) ∧ (val (spS m.fs) nm = [] ∨ (nm, val (spS m.fs) nm) ∈ m.fs)) ∧ (rq m).pa = val (spS m.fs) bPa ∧ (rq m).sc = val (spS m.fs) bSc ∧ (rq m).au = val (spS m.fs) bAu := by
  have hl : lrgM m = false := by
    cases hl : lrgM m with
    | false => rfl
    | true => unfold rcls at h; rw [if_pos hl] at h; cases h
  have h2 : (okF names4 m && rokV (val (spS m.fs) bMe) (val (spS m.fs) bSc) (val (spS m.fs) bPa)) = true := by
    unfold rcls at h
    rw [hl, if_neg Bool.false_ne_true] at h
    cases hq : (okF names4 m && rokV (val (spS m.fs) bMe) (val (spS m.fs) bSc) (val (spS m.fs) bPa)) with
    | true => rfl
    | false => rw [hq] at h; cases h
  rw [Bool.and_eq_true] at h2
  have hok := h2.1
  unfold okF at hok
  rw [Bool.and_eq_true] at hok
  obtain ⟨hshp, htr⟩ := hok
  have hS := shpB_iff.1 hshp
  have hq : rq m = ⟨val (spS m.fs) bMe, val (spS m.fs) bSc, val (spS m.fs) bAu, val (spS m.fs) bPa, spR m.fs, m.b, m.ts⟩ := by unfold rq; rw [if_pos h]
  have hmf : m.fs = spS m.fs ++ spR m.fs := (sp_app _).symm
  have hplain : ∀ f ∈ spR m.fs, valOk f.2 = true := fun f hf => by
    have := (hS.r f hf).2
    unfold plainOk at this
    simp only [Bool.and_eq_true] at this
    exact this.2.1
  have hlb : m.b.length ≤ 8192 := by
    unfold lrgM at hl
    simp only [Bool.or_eq_false_iff, decide_eq_false_iff_not] at hl
    omega
  rw [hq]
  refine ⟨rfl, rfl, hlb, fun f hf => ⟨?_, hplain f hf⟩, ?_, htr, fun nm => ⟨rfl, ?_⟩, rfl, rfl, rfl⟩
  · rw [hmf]; exact List.mem_append_right _ hf
  · rcases val_in_ (spS m.fs) bPa with h | h
    · rw [h]; rfl
    · exact (hS.s _ h).2.2.2
  · rcases val_in_ (spS m.fs) nm with h | h
    · exact .inl h
    · have h3 : (nm, val (spS m.fs) nm) ∈ spS m.fs ++ spR m.fs := List.mem_append_left _ h
      rw [sp_app] at h3
      exact .inr h3
theorem not_map {κ : Type} {enc : κ → Value} {w : World} {b : Nat} {ents : List (κ × Value)} {A : Option Addr} {xs : List Value} (h : MapIs w b enc ents) (hR : Rd w A xs) (hn : xs ≠ []) {k : Nat} (hk : M.blk A = some k) : k ≠ b := fun e => by
  obtain ⟨es, clock, hb, _⟩ := h
  cases xs with
  | nil => exact hn rfl
  | cons x r =>
    obtain ⟨g, off, rfl, hc⟩ := hR 0 x rfl
    cases hk
    simp only at e
    subst e
    simp [World.cell?, hb] at hc
/-- a store of the handler's and one of the document's that hold alike -/
structure TwoAt (w : World) (p bm pw : Nat) (A : Option Addr) (c : Nat) (L Lr : List (Bytes × SV)) : Prop where
  k : KAt w p bm L
  r : RAt w pw A c Lr
  pm : (sto Lr).Perm (sto L)
  far : ∀ x ∈ L, bvs x.2.b ≠ [] → ∀ z, M.blk x.2.A = some z → z ≠ pw
  ne : p ≠ pw
section
variable {w w' : World} {p bm pw : Nat} {A : Option Addr} {c : Nat} {L Lr : List (Bytes × SV)}
theorem TwoAt.neb (h : TwoAt w p bm pw A c L Lr) : pw ≠ bm := fun e => by
  obtain ⟨es, clock, hb, _⟩ := h.k.map
  have h1 := h.r.blk
  unfold Blk at h1
  rw [e, hb] at h1
  cases h1
theorem TwoAt.keep {x : Nat} (h : TwoAt w p bm pw A c L Lr) (f : Frm (fun z => z = x ∨ New w z) w w') (h1 : p ≠ x) (h2 : bm ≠ x) (h3 : pw ≠ x) (h4 : ∀ y ∈ L, bvs y.2.b ≠ [] → ∀ z, M.blk y.2.A = some z → z ≠ x) (h5 : ∀ y ∈ Lr, bvs y.2.b ≠ [] → ∀ z, M.blk y.2.A = some z → z ≠ x) (h6 : ∀ z, M.blk A = some z → z ≠ x) : TwoAt w' p bm pw A c L Lr := by
  have hl1 := h.k.blk.lt
  have hl2 := h.k.map.lt
  have hl3 := h.r.blk.lt
  refine ⟨h.k.keep f (fun e => ?_) (fun e => ?_) (fun y hy hn z hz e => ?_), h.r.keep f (fun e => ?_) (fun z hz e => ?_) (fun y hy hn z hz e => ?_), h.pm, h.far, h.ne⟩
  · rcases e with e | e; exact h1 e; unfold New at e; omega
  · rcases e with e | e; exact h2 e; unfold New at e; omega
  · have := (h.k.val y hy).blk_lt hn hz
    rcases e with e | e; exact h4 y hy hn z hz e; unfold New at e; omega
  · rcases e with e | e; exact h3 e; unfold New at e; omega
  · have := cells_lt (h.r.row z hz)
    rcases e with e | e; exact h6 z hz e; unfold New at e; omega
  · have := (h.r.val y hy).blk_lt hn hz
    rcases e with e | e; exact h5 y hy hn z hz e; unfold New at e; omega
theorem TwoAt.fresh (h : TwoAt w p bm pw A c L Lr) (f : Frm (New w) w w') : TwoAt w' p bm pw A c L Lr :=
  ⟨h.k.fresh f, h.r.fresh f, h.pm, h.far, h.ne⟩
/-- a map's block is none of theirs -/
theorem TwoAt.keepMap {κ : Type} {enc : κ → Value} {ents : List (κ × Value)} {x : Nat} (h : TwoAt w p bm pw A c L Lr) (hM : MapIs w x enc ents) (f : Frm (fun z => z = x ∨ New w z) w w') (h2 : bm ≠ x) : TwoAt w' p bm pw A c L Lr := by
  have hcell : ∀ k, (∃ cs t f, w.heap[k]? = some (.cells cs t f)) → k ≠ x := fun k hk e => by
    obtain ⟨es, clock, hb, _⟩ := hM
    obtain ⟨cs, t, g, hk⟩ := hk
    rw [e, hb] at hk
    cases hk
  exact h.keep f (hcell p ⟨_, _, _, h.k.blk⟩) h2 (hcell pw ⟨_, _, _, h.r.blk⟩) (fun y hy hn z hz => not_map hM (h.k.val y hy) hn hz) (fun y hy hn z hz => not_map hM (h.r.val y hy) hn hz) (fun z hz => hcell z (h.r.row z hz))
/-- what the handler's answer leaves of both -/
theorem TwoAt.one {L' : List (Bytes × SV)} (h : TwoAt w p bm pw A c L Lr) (ho : Olds w L L') (f : Frm (fun z => z = bm ∨ New w z) w w') :
    RAt w' pw A c Lr ∧ (∀ x ∈ L', bvs x.2.b ≠ [] → ∀ z, M.blk x.2.A = some z → z ≠ pw) := by
  have hl3 := h.r.blk.lt
  refine ⟨h.r.keep f (fun e => ?_) (fun z hz e => ?_) (fun y hy hn z hz e => ?_), fun x hx hn z hz e => ?_⟩
  · rcases e with e | e; exact h.neb e; unfold New at e; omega
  · have h9 := h.r.row z hz
    have := cells_lt h9
    rcases e with e | e
    · obtain ⟨es, clock, hb, _⟩ := h.k.map
      obtain ⟨cs, t, g, hk⟩ := h9
      rw [e, hb] at hk
      cases hk
    · unfold New at e; omega
  · have := (h.r.val y hy).blk_lt hn hz
    rcases e with e | e; exact not_map h.k.map (h.r.val y hy) hn hz e; unfold New at e; omega
  · rcases ho x hx hn z hz with h1 | h1
    · exact h.far x h1 hn z hz e
    · omega
/-- and the document's -/
theorem TwoAt.two {w1 w2 : World} {L' L2 : List (Bytes × SV)} {A2 : Option Addr} {c2 : Nat} (h : p ≠ pw) (hb : pw ≠ bm) (hK : KAt w1 p bm L') (hf : ∀ x ∈ L', bvs x.2.b ≠ [] → ∀ z, M.blk x.2.A = some z → z ≠ pw) (hR : RAt w2 pw A2 c2 L2) (f : Frm (fun z => z = pw ∨ New w1 z) w1 w2) (hp : (sto L2).Perm (sto L')) : TwoAt w2 p bm pw A2 c2 L' L2 := by
  have hl1 := hK.blk.lt
  have hl2 := hK.map.lt
  refine ⟨hK.keep f (fun e => ?_) (fun e => ?_) (fun y hy hn z hz e => ?_), hR, hp, hf, h⟩
  · rcases e with e | e; exact h e; unfold New at e; omega
  · rcases e with e | e; exact hb e.symm; unfold New at e; omega
  · have := (hK.val y hy).blk_lt hn hz
    rcases e with e | e; exact hf y hy hn z hz e; unfold New at e; omega
end
theorem good_small {m : MV} (h0 : rcls m = 0) (hlf : fsizes m.fs ≤ 5240) (hst : m.ts.length ≤ 70) (hsf : m.fs.length ≤ 70) : (rq m).fs.length ≤ 70 ∧ (rq m).b.length ≤ 8192 ∧ (rq m).ts.length ≤ 70 ∧ (rq m).pa.length ≤ 5240 := by
  obtain ⟨e1, e2, e3, e4, e5, e6, e7, e8, e9, e10⟩ := good_rq h0
  have hff : (rq m).fs = spR m.fs := by unfold rq; rw [if_pos h0]
  refine ⟨?_, by rw [e1]; exact e3, by rw [e2]; exact hst, ?_⟩
  · have h2 := congrArg List.length (sp_app m.fs)
    rw [List.length_append] at h2
    rw [hff]
    omega
  · rw [e8]
    rcases (e7 bPa).2 with h | h
    · rw [h]; exact Nat.zero_le _
    · have := fsizes_mem h
      unfold fsize at this
      simp only at this
      omega
set_option maxRecDepth 100000 in
set_option maxHeartbeats 8000000 in
theorem clones_walk (A0 : Option Addr) (n0 c0 : Nat) (l : List MV) (B0 : Option Addr) (k0 d0 : Nat) (ml : List MV) (W : World) (hl : AIn W MV.cl (MArg W) A0 n0 c0 l) (hm : AIn W MV.cl (MArg W) B0 k0 d0 ml) (hT : PT W) :
    Calls Tryz.prog 4 #[.slice A0 n0 c0, .slice B0 k0 d0] W fun e w' => e = .returned (.bool true) ∧ Below W.heap.size W w' := by
  obtain ⟨rfl, hR0, hok⟩ : n0 = l.length ∧ Rd W A0 (l.flatMap MV.cl) ∧ (∀ m ∈ l, MArg W m) := ⟨hl.len, hl.rd, hl.ok⟩
  obtain ⟨rfl, hR1, hok1⟩ : k0 = ml.length ∧ Rd W B0 (ml.flatMap MV.cl) ∧ (∀ m ∈ ml, MArg W m) := ⟨hm.len, hm.rd, hm.ok⟩
  clear hl hm
  have hk := hknown_any W hT
  have hnw := fun w' => new_any w'
  have HK := Lib.hid hk
  have HR0 := Lib.hid hR0
  have HOK := Lib.hid hok
  have HR1 := Lib.hid hR1
  have HOK1 := Lib.hid hok1
  have HNW := Lib.hid hnw
  clear hk hR0 hok hR1 hok1 hnw
  go_enter Tryz.func4, Tryz.ntmps4
  go_upto_region 3 with (go_at_call 5; refine HK.out.mono ?_; rintro e w1 ⟨rfl, hF1⟩)
  by_cases h15 : (15 : Int) < l.length
  · go_wp2_with (fail)
    go_ret
    exact ⟨rfl, hF1.below⟩
  by_cases h16 : (15 : Int) < ml.length
  · go_wp2_with (fail)
    go_ret
    exact ⟨rfl, hF1.below⟩
  clear HK
  go_upto_region 7 with (go_at_call 6; refine (HNW.out _).mono ?_; rintro e w2 ⟨p, bm, rfl, hK2, hp2, hb2, hF2⟩)
  have hF02 := hF1.then_new Up.new hF2
  have hFb : Frm (New w2) w2 (w2.alloc (.cells #[.slice none 0 0] 48)) := (Frm.refl _ w2).alloc Up.new _
  have hRe : RAt (w2.alloc (.cells #[.slice none 0 0] 48)) w2.heap.size none 0 [] := ⟨Blk.new w2 _ _, App.none_, (fun e => by cases e), (fun x h => by cases h), (fun x h => by cases h), List.Pairwise.nil, Nat.zero_le _, (fun x h => by cases h), (fun x h => by cases h), (fun k h => by cases h)⟩
  have hlp2 := hK2.blk.lt
  have hT2 : TwoAt (w2.alloc (.cells #[.slice none 0 0] 48)) p bm w2.heap.size none 0 [] [] := ⟨hK2.fresh hFb, hRe, List.Perm.refl _, (fun x h => by cases h), by omega⟩
  have hF03 := hF02.then_new Up.new hFb
  obtain ⟨pw, hpw⟩ : ∃ pw, pw = w2.heap.size := ⟨_, rfl⟩
  rw [← hpw] at hT2 hRe ⊢
  have hpwW : W.heap.size ≤ pw := by have := hF02.size; omega
  have hbmW : W.heap.size ≤ bm := by have := hF1.size; omega
  generalize w2.alloc (.cells #[.slice none 0 0] 48) = w3 at *
  clear hF1 hF2 hp2 hb2 HNW hF02 hFb hRe hlp2 hK2 hpw
  have HT2 := Lib.hid hT2
  have HF03 := Lib.hid hF03
  clear hT2 hF03
  go_loopw [7] (fun v7 wr => ∃ (i : Nat) (L Lr : List (Bytes × SV)) (Ar : Option Addr) (cr : Nat), i ≤ l.length ∧ v7 = .int .i64 i ∧ Hid (TwoAt wr p bm pw Ar cr L Lr) ∧ Hid (Frm (New W) W wr)) (fun v7 _ => l.length - (intOf v7).toNat)
  case atStart => exact ⟨0, [], [], none, 0, Nat.zero_le _, rfl, HT2, HF03⟩
  case round =>
    obtain ⟨i, L, Lr, Ar, cr, hi, rfl, hTr, hFr⟩ := hrel
    rename World => wr
    by_cases hil : i < l.length
    · obtain ⟨gl, ol, rfl, hx⟩ := (HR0.out.fresh hFr.out).at_ (k := i * 3) (by rw [flatL_length MV.cl 3 (fun _ => rfl)]; omega)
      clear hx
      obtain ⟨hc0, hc1, hc2⟩ := msg_cells (HR0.out.fresh hFr.out) i hil
      have hma := HOK.out _ (List.getElem_mem hil)
      generalize l[i] = m at *
      have hgl := World.block_lt_of_cell? _ _ hc0
      simp only at hgl
      have hmr := hma.rd.fresh hFr.out
      have hlm : Calls Tryz.prog 7 #[.agg #[.slice m.A1 m.fs.length m.c1, .slice m.A2 m.b.length m.c2, .slice m.A3 m.ts.length m.c3]] wr fun e w' => e = .returned (.bool (lightM m)) ∧ Frm (New wr) wr w' := lightM_any m wr hmr hma.ok
      have hcf : ∀ w', Frm (New wr) wr w' → w'.cell? ⟨gl, ol + i * 3, none⟩ = some (.slice m.A1 m.fs.length m.c1) ∧ w'.cell? ⟨gl, ol + i * 3 + 1, none⟩ = some (.slice m.A2 m.b.length m.c2) ∧ w'.cell? ⟨gl, ol + i * 3 + 2, none⟩ = some (.slice m.A3 m.ts.length m.c3) ∧ gl < w'.heap.size := fun w' f => ⟨by rw [f.cell (p := ⟨gl, ol + i * 3, none⟩) (by unfold New; simp only; omega)]; exact hc0, by rw [f.cell (p := ⟨gl, ol + i * 3 + 1, none⟩) (by unfold New; simp only; omega)]; exact hc1, by rw [f.cell (p := ⟨gl, ol + i * 3 + 2, none⟩) (by unfold New; simp only; omega)]; exact hc2, Nat.lt_of_lt_of_le hgl f.size⟩
      have HCF := Lib.hid hcf
      clear hcf
      cases hlm2 : lightM m with
      | false =>
        rw [hlm2] at hlm
        clear hlm2
        have HLM := Lib.hid hlm
        have HMR := Lib.hid hmr
        clear hlm hmr
        go_wp2_with (go_at_call 7; refine HLM.out.mono ?_; rintro e w3 ⟨rfl, hF3⟩)
        go_ret
        exact ⟨rfl, (hFr.out.then_new Up.new hF3).below⟩
      | true =>
        rw [hlm2] at hlm
        obtain ⟨hsz, hsb, hst, hsf⟩ := lightM_sz hlm2
        have hlf : fsizes m.fs ≤ 5240 := by
          have h := hlm2
          unfold lightM at h
          simp only [Bool.and_eq_true] at h
          exact (light_size h.1).1
        clear hlm2
        have HLM := Lib.hid hlm
        have HMR := Lib.hid hmr
        clear hlm hmr
        go_upto_region 11 with (go_at_call 7; refine HLM.out.mono ?_; rintro e w3 ⟨rfl, hF3⟩)
        obtain ⟨hd0, hd1, hd2, hgl3⟩ := HCF.out w3 hF3
        have hof : Calls Tryz.prog 8 #[.agg #[.slice m.A1 m.fs.length m.c1, .slice m.A2 m.b.length m.c2, .slice m.A3 m.ts.length m.c3]] w3 (RqR w3 m) := rof_any m w3 (HMR.out.fresh hF3) hsz
        have hF03 := hFr.out.then_new Up.new hF3
        have hT3 := hTr.out.fresh hF3
        clear hc0 hc1 hc2 HLM HMR hF3
        obtain ⟨rc, hrc⟩ : ∃ rc, rc = rcls m := ⟨_, rfl⟩
        unfold RqR at hof
        rw [← hrc] at hof
        have HOF := Lib.hid hof
        have HF03 := Lib.hid hF03
        have HT3 := Lib.hid hT3
        have HRC := Lib.hid hrc
        clear hof hF03 hT3 hrc
        go_upto_region 12 with (first
          | (go_at_call 8; refine HOF.out.mono ?_; intro e w4 hR; obtain ⟨⟨p1, p2, p3, p4, a1, c1, f, a2, c2, b, a3, c3, t⟩, rfl, hin, hq, hF4⟩ := hR; simp only [RV.cells])
          | (refine wpList_new rfl rfl zReq rfl ?_; intro w5 hb5 hF5 hs5)
          | (refine wpList_store_agg rfl rfl rfl rfl hb5 rfl (req_one _ _ _ _ _ _ _ _ _ _ _ _ _) (by kernel_rfl) ?_; intro w6 hb6 hF6 hs6))
        obtain ⟨g7, hg7⟩ : ∃ g7, g7 = w4.heap.size := ⟨_, rfl⟩
        rw [← hg7] at hb6 hb5 hF6 ⊢
        have hF46 : Frm (New w4) w4 w6 := hF5.trans (hF6.mono (fun q e => by have e2 : q = g7 := e; unfold New; omega))
        have hF36 := hF4.then_new Up.new hF46
        have hT6 := HT3.out.fresh hF36
        have hF06 := HF03.out.then_new Up.new hF36
        have hin6 := hin.fresh hF46
        clear hb5 hF5 hs5 hF6 hs6 hF46 hF4 hin hg7 HOF hd0 hd1 hd2 HT3 HF03 hF36
        have HB6 := Lib.hid hb6
        clear hb6
        have HT6 := Lib.hid hT6
        have HF06 := Lib.hid hF06
        have HIN6 := Lib.hid hin6
        have HQ := Lib.hid hq
        clear hT6 hF06 hin6 hq
        by_cases h0 : rc = 0
        · subst h0
          have hqe : rq m = ⟨p1, p2, p3, p4, f, b, t⟩ := HQ.out.symm
          obtain ⟨hfl, hbl, htl, hpl4⟩ := good_small HRC.out.symm hlf hst hsf
          rw [hqe] at hfl hbl htl hpl4
          simp only at hfl hbl htl hpl4
          have hha : Calls Tryz.prog 10 #[.pointer (some ⟨p, 0, none⟩), .agg #[.string ⟨p1.toArray⟩, .string ⟨p2.toArray⟩, .string ⟨p3.toArray⟩, .string ⟨p4.toArray⟩, .slice a1 f.length c1, .slice a2 b.length c2, .slice a3 t.length c3]] w6 (KeyedR w6 p bm L (handle (sto L) ⟨p1, p2, p3, p4, f, b, t⟩)) := handle_any ⟨p1, p2, p3, p4, a1, c1, f, a2, c2, b, a3, c3, t⟩ w6 p bm L HT6.out.k HIN6.out (hT.fresh HF06.out) (by show f.length ≤ _; omega) (by show b.length ≤ _; omega) (by show t.length ≤ _; omega) (by show p4.length ≤ _; omega)
          have hhr : ∀ w', RAt w' pw Ar cr Lr → RIn w' ⟨p1, p2, p3, p4, a1, c1, f, a2, c2, b, a3, c3, t⟩ → Calls Tryz.prog 16 #[.pointer (some ⟨pw, 0, none⟩), .agg #[.string ⟨p1.toArray⟩, .string ⟨p2.toArray⟩, .string ⟨p3.toArray⟩, .string ⟨p4.toArray⟩, .slice a1 f.length c1, .slice a2 b.length c2, .slice a3 t.length c3]] w' (RSR w' pw Ar Lr (rhandle (sto Lr) ⟨p1, p2, p3, p4, f, b, t⟩)) := fun w' h1 h2 => rhandle_any ⟨p1, p2, p3, p4, a1, c1, f, a2, c2, b, a3, c3, t⟩ w' pw cr Ar Lr h1 h2 (by show f.length ≤ _; omega) (by show b.length ≤ _; omega) (by show t.length ≤ _; omega) (by show p4.length ≤ _; omega)
          have hpm := (rhandle_ok HT6.out.pm HT6.out.r.srt ⟨p1, p2, p3, p4, f, b, t⟩).1
          generalize handle (sto L) ⟨p1, p2, p3, p4, f, b, t⟩ = res at *
          generalize rhandle (sto Lr) ⟨p1, p2, p3, p4, f, b, t⟩ = rres at *
          have hg7l := HB6.out.lt
          clear hqe hfl hbl htl hpl4 HQ HRC
          have HHA := Lib.hid hha
          have HHR := Lib.hid hhr
          have HPM := Lib.hid hpm
          clear hha hhr hpm
          go_upto_region 14 with (first
            | (refine wpList_load_agg agR rfl rfl rfl HB6.out rfl ?_)
            | (go_at_call 10; refine HHA.out.mono ?_; rintro e w8 ⟨⟨D1, d1, F2, D2, d2, B2, D3, d3, T2⟩, L', rfl, hm8, hK8, hs8, ho8⟩; simp only [MV.cells]))
          have hf68 := hm8.frm
          obtain ⟨hR8, hfar8⟩ := HT6.out.one ho8 hf68
          have hgbm : g7 ≠ bm := fun e => by
            obtain ⟨es, ck, hb, _⟩ := HT6.out.k.map
            have h1 := HB6.out
            unfold Blk at h1
            rw [e, hb] at h1
            cases h1
          have hb68 := HB6.out.keep hf68 (fun e => by rcases e with e | e; exact hgbm e; unfold New at e; omega)
          have hin8 : RIn w8 ⟨p1, p2, p3, p4, a1, c1, f, a2, c2, b, a3, c3, t⟩ := by
            have hkm := HT6.out.k.map
            refine ⟨HIN6.out.r1.keep2 hf68 (fun hn k hk e => ?_), HIN6.out.r2.keep2 hf68 (fun hn k hk e => ?_), HIN6.out.r3.keep2 hf68 (fun hn k hk e => ?_)⟩
            · have := HIN6.out.r1.blk_lt hn hk
              rcases e with e | e; exact not_map hkm HIN6.out.r1 hn hk e; unfold New at e; omega
            · have := HIN6.out.r2.blk_lt hn hk
              rcases e with e | e; exact not_map hkm HIN6.out.r2 hn hk e; unfold New at e; omega
            · have := HIN6.out.r3.blk_lt hn hk
              rcases e with e | e; exact not_map hkm HIN6.out.r3 hn hk e; unfold New at e; omega
          have hhr8 := HHR.out w8 hR8 hin8
          have hF08 : Frm (New W) W w8 := HF06.out.trans (hf68.mono (fun z hz => by have := HF06.out.size; rcases hz with hz | hz; exact hz ▸ hbmW; unfold New at hz ⊢; omega))
          have hne := HT6.out.ne
          have hneb := HT6.out.neb
          clear hm8 ho8 hf68 HB6 HT6 HF06 HIN6 HHA HHR
          have HK8 := Lib.hid hK8
          have HS8 := Lib.hid hs8
          have HFAR8 := Lib.hid hfar8
          have HB68 := Lib.hid hb68
          have HHR8 := Lib.hid hhr8
          have HF08 := Lib.hid hF08
          have HNE := Lib.hid hne
          have HNEB := Lib.hid hneb
          clear hK8 hs8 hfar8 hb68 hhr8 hF08 hne hneb
          go_wp2_with (first
            | (refine wpList_load_agg agR rfl rfl rfl HB68.out rfl ?_)
            | (go_at_call 16; refine HHR8.out.mono ?_; rintro e w9 ⟨X1, X2, X3, x1, x2, x3, y1, y2, y3, A9, c9, L9, rfl, hR9, hs9, hF9, ho9, hd9⟩; have hT9 := Lib.hid (TwoAt.two HNE.out HNEB.out HK8.out HFAR8.out hR9 hF9 (by rw [hs9, HS8.out]; exact HPM.out)); have hF09 : Hid (Frm (New W) W w9) := Lib.hid (HF08.out.trans (hF9.mono (fun z hz => by have := HF08.out.size; rcases hz with hz | hz; exact hz ▸ hpwW; unfold New at hz ⊢; omega))); clear hR9 hs9 hF9 ho9 hd9))
          go_roundw
          case rel => exact ⟨i + 1, L', L9, A9, c9, by omega, by go_num, hT9, hF09⟩
          case measure => simp [intOf]; omega
        · have h0i : ((rc : Int) == 0) = false := beq_eq_false_iff_ne.2 (by omega)
          have h0j : ¬ (rc : Int) = 0 := by omega
          have H0 := Lib.hid h0
          clear h0
          go_wp2_with (fail)
          go_roundw
          case rel => exact ⟨i + 1, L, Lr, Ar, cr, by omega, by go_num, HT6, HF06⟩
          case measure => simp [intOf]; omega
    · obtain rfl : i = l.length := by omega
      clear hil hi
      generalize L = Lq at *
      generalize Lr = Lqr at *
      generalize Ar = Aq at *
      generalize cr = cq at *
      have hlq1 := hTr.out.k.blk.lt
      have hlq2 := hTr.out.k.map.lt
      have hlq3 := hTr.out.r.blk.lt
      have hvq : ∀ y ∈ Lq, bvs y.2.b ≠ [] → ∀ z, M.blk y.2.A = some z → z < wr.heap.size := fun y hy hn z hz => (hTr.out.k.val y hy).blk_lt hn hz
      have hvr : ∀ y ∈ Lqr, bvs y.2.b ≠ [] → ∀ z, M.blk y.2.A = some z → z < wr.heap.size := fun y hy hn z hz => (hTr.out.r.val y hy).blk_lt hn hz
      have hvw : ∀ z, M.blk Aq = some z → z < wr.heap.size := fun z hz => cells_lt (hTr.out.r.row z hz)
      have hcl := hclone_any wr p bm Lq hTr.out.k
      have HCL := Lib.hid hcl
      have HVQ := Lib.hid hvq
      have HVR := Lib.hid hvr
      have HVW := Lib.hid hvw
      clear hcl hvq hvr hvw
      go_upto_region 16 with (go_at_call 17; refine HCL.out.mono ?_; rintro e w1 ⟨pt, bt, L3, rfl, hK3, hp3, hsp3, hsb3, hn3, hF1⟩)
      have hT1 := hTr.out.fresh hF1
      have hsm := same_any w1 pt bt L3 hK3 pw cq Aq Lqr hT1.r (hT1.pm.trans hp3.symm)
      have hF01 := hFr.out.then_new Up.new hF1
      have hs1 := hF1.size
      clear HCL hFr hF1 hTr
      have HSM := Lib.hid hsm
      have HK3 := Lib.hid hK3
      have HP3 := Lib.hid hp3
      have HN3 := Lib.hid hn3
      have HT1 := Lib.hid hT1
      have HF01 := Lib.hid hF01
      clear hsm hK3 hp3 hn3 hT1 hF01
      go_upto_region 18 with (go_at_call 18; refine HSM.out.mono ?_; rintro e w2 ⟨rfl, hF2⟩)
      have hT2 := HT1.out.fresh hF2
      have hK32 := HK3.out.fresh hF2
      have hF02 := HF01.out.then_new Up.new hF2
      have hs2 := hF2.size
      have hrc := rclone_any w2 pw Aq cq Lqr
      have hlp3 := hK32.blk.lt
      clear HSM HT1 HK3 HF01 hF2
      have HT2 := Lib.hid hT2
      have HK32 := Lib.hid hK32
      have HF02 := Lib.hid hF02
      have HRC := Lib.hid hrc
      clear hT2 hK32 hF02 hrc
      go_upto_region 20 with (go_at_call 19; refine (HRC.out HT2.out.r).mono ?_; rintro e w3 ⟨pv, A4, c4, rfl, hR4, hsp4, hF3⟩)
      have hSd := HT2.out.fresh hF3
      have hTn : TwoAt w3 pt bt pv A4 c4 L3 Lqr := ⟨HK32.out.fresh hF3, hR4, HT2.out.pm.trans HP3.out.symm, fun x hx hn z hz e => by have := (HK32.out.val x hx).blk_lt hn hz; omega, by omega⟩
      have hF03 := HF02.out.then_new Up.new hF3
      have hpvW : W.heap.size ≤ pv := by have := HF02.out.size; omega
      have hbtW : W.heap.size ≤ bt := by omega
      have hbqbm : bm ≠ bt := by omega
      have hx1 : p ≠ pv := by omega
      have hx2 : bm ≠ pv := by omega
      have hx3 : pw ≠ pv := by omega
      have hx4 : ∀ y ∈ Lq, bvs y.2.b ≠ [] → ∀ z, M.blk y.2.A = some z → z ≠ pv := fun y hy hn z hz => by have := HVQ.out y hy hn z hz; omega
      have hx5 : ∀ y ∈ Lqr, bvs y.2.b ≠ [] → ∀ z, M.blk y.2.A = some z → z ≠ pv := fun y hy hn z hz => by have := HVR.out y hy hn z hz; omega
      have hx6 : ∀ z, M.blk Aq = some z → z ≠ pv := fun z hz => by have := HVW.out z hz; omega
      clear HVQ HVR HVW HT2 HK32 HF02 HRC hR4 hF3 HP3 HN3 hsp4 hlp3 hs1 hs2 hsp3 hsb3 hlq1 hlq2 hlq3 hbmW hpwW
      have HSD := Lib.hid hSd
      have HTN := Lib.hid hTn
      have HF03 := Lib.hid hF03
      have HX1 := Lib.hid hx1
      have HX2 := Lib.hid hx2
      have HX3 := Lib.hid hx3
      have HX4 := Lib.hid hx4
      have HX5 := Lib.hid hx5
      have HX6 := Lib.hid hx6
      clear hSd hTn hF03 hx1 hx2 hx3 hx4 hx5 hx6
      go_loopw [12] (fun v12 wr => ∃ (i : Nat) (L Lr : List (Bytes × SV)) (Ar : Option Addr) (cr : Nat), i ≤ ml.length ∧ v12 = .int .i64 i ∧ Hid (TwoAt wr pt bt pv Ar cr L Lr) ∧ Hid (Frm (New W) W wr) ∧ Hid (TwoAt wr p bm pw Aq cq Lq Lqr)) (fun v12 _ => ml.length - (intOf v12).toNat)
      case atStart => exact ⟨0, L3, Lqr, A4, c4, Nat.zero_le _, rfl, HTN, HF03, HSD⟩
      case round =>
        obtain ⟨i, L, Lr, Ar, cr, hi, rfl, hTr, hFr, hSd⟩ := hrel
        rename World => wr
        by_cases hil : i < ml.length
        · obtain ⟨gl, ol, rfl, hx⟩ := (HR1.out.fresh hFr.out).at_ (k := i * 3) (by rw [flatL_length MV.cl 3 (fun _ => rfl)]; omega)
          clear hx
          obtain ⟨hc0, hc1, hc2⟩ := msg_cells (HR1.out.fresh hFr.out) i hil
          have hma := HOK1.out _ (List.getElem_mem hil)
          generalize ml[i] = m at *
          have hgl := World.block_lt_of_cell? _ _ hc0
          simp only at hgl
          have hmr := hma.rd.fresh hFr.out
          have hlm : Calls Tryz.prog 7 #[.agg #[.slice m.A1 m.fs.length m.c1, .slice m.A2 m.b.length m.c2, .slice m.A3 m.ts.length m.c3]] wr fun e w' => e = .returned (.bool (lightM m)) ∧ Frm (New wr) wr w' := lightM_any m wr hmr hma.ok
          have hcf : ∀ w', Frm (New wr) wr w' → w'.cell? ⟨gl, ol + i * 3, none⟩ = some (.slice m.A1 m.fs.length m.c1) ∧ w'.cell? ⟨gl, ol + i * 3 + 1, none⟩ = some (.slice m.A2 m.b.length m.c2) ∧ w'.cell? ⟨gl, ol + i * 3 + 2, none⟩ = some (.slice m.A3 m.ts.length m.c3) ∧ gl < w'.heap.size := fun w' f => ⟨by rw [f.cell (p := ⟨gl, ol + i * 3, none⟩) (by unfold New; simp only; omega)]; exact hc0, by rw [f.cell (p := ⟨gl, ol + i * 3 + 1, none⟩) (by unfold New; simp only; omega)]; exact hc1, by rw [f.cell (p := ⟨gl, ol + i * 3 + 2, none⟩) (by unfold New; simp only; omega)]; exact hc2, Nat.lt_of_lt_of_le hgl f.size⟩
          have HCF := Lib.hid hcf
          clear hcf
          cases hlm2 : lightM m with
          | false =>
            rw [hlm2] at hlm
            clear hlm2
            have HLM := Lib.hid hlm
            have HMR := Lib.hid hmr
            clear hlm hmr
            go_wp2_with (go_at_call 7; refine HLM.out.mono ?_; rintro e w3 ⟨rfl, hF3⟩)
            go_ret
            exact ⟨rfl, (hFr.out.then_new Up.new hF3).below⟩
          | true =>
            rw [hlm2] at hlm
            obtain ⟨hsz, hsb, hst, hsf⟩ := lightM_sz hlm2
            have hlf : fsizes m.fs ≤ 5240 := by
              have h := hlm2
              unfold lightM at h
              simp only [Bool.and_eq_true] at h
              exact (light_size h.1).1
            clear hlm2
            have HLM := Lib.hid hlm
            have HMR := Lib.hid hmr
            clear hlm hmr
            go_upto_region 24 with (go_at_call 7; refine HLM.out.mono ?_; rintro e w3 ⟨rfl, hF3⟩)
            obtain ⟨hd0, hd1, hd2, hgl3⟩ := HCF.out w3 hF3
            have hof : Calls Tryz.prog 8 #[.agg #[.slice m.A1 m.fs.length m.c1, .slice m.A2 m.b.length m.c2, .slice m.A3 m.ts.length m.c3]] w3 (RqR w3 m) := rof_any m w3 (HMR.out.fresh hF3) hsz
            have hF03 := hFr.out.then_new Up.new hF3
            have hT3 := hTr.out.fresh hF3
            have hSd3 := hSd.out.fresh hF3
            clear hc0 hc1 hc2 HLM HMR hF3
            obtain ⟨rc, hrc⟩ : ∃ rc, rc = rcls m := ⟨_, rfl⟩
            unfold RqR at hof
            rw [← hrc] at hof
            have HOF := Lib.hid hof
            have HF03 := Lib.hid hF03
            have HT3 := Lib.hid hT3
            have HRC := Lib.hid hrc
            have HSD3 := Lib.hid hSd3
            clear hof hF03 hT3 hrc hSd3
            go_upto_region 25 with (first
              | (go_at_call 8; refine HOF.out.mono ?_; intro e w4 hR; obtain ⟨⟨p1, p2, p3, p4, a1, c1, f, a2, c2, b, a3, c3, t⟩, rfl, hin, hq, hF4⟩ := hR; simp only [RV.cells])
              | (refine wpList_new rfl rfl zReq rfl ?_; intro w5 hb5 hF5 hs5)
              | (refine wpList_store_agg rfl rfl rfl rfl hb5 rfl (req_one _ _ _ _ _ _ _ _ _ _ _ _ _) (by kernel_rfl) ?_; intro w6 hb6 hF6 hs6))
            obtain ⟨g7, hg7⟩ : ∃ g7, g7 = w4.heap.size := ⟨_, rfl⟩
            rw [← hg7] at hb6 hb5 hF6 ⊢
            have hF46 : Frm (New w4) w4 w6 := hF5.trans (hF6.mono (fun q e => by have e2 : q = g7 := e; unfold New; omega))
            have hF36 := hF4.then_new Up.new hF46
            have hT6 := HT3.out.fresh hF36
            have hSd6 := HSD3.out.fresh hF36
            have hF06 := HF03.out.then_new Up.new hF36
            have hin6 := hin.fresh hF46
            clear hb5 hF5 hs5 hF6 hs6 hF46 hF4 hin hg7 HOF hd0 hd1 hd2 HT3 HF03 hF36
            have HB6 := Lib.hid hb6
            clear hb6
            have HT6 := Lib.hid hT6
            have HF06 := Lib.hid hF06
            have HIN6 := Lib.hid hin6
            have HQ := Lib.hid hq
            have HSD6 := Lib.hid hSd6
            clear hT6 hF06 hin6 hq hSd6
            by_cases h0 : rc = 0
            · subst h0
              have hqe : rq m = ⟨p1, p2, p3, p4, f, b, t⟩ := HQ.out.symm
              obtain ⟨hfl, hbl, htl, hpl4⟩ := good_small HRC.out.symm hlf hst hsf
              rw [hqe] at hfl hbl htl hpl4
              simp only at hfl hbl htl hpl4
              have hha : Calls Tryz.prog 10 #[.pointer (some ⟨pt, 0, none⟩), .agg #[.string ⟨p1.toArray⟩, .string ⟨p2.toArray⟩, .string ⟨p3.toArray⟩, .string ⟨p4.toArray⟩, .slice a1 f.length c1, .slice a2 b.length c2, .slice a3 t.length c3]] w6 (KeyedR w6 pt bt L (handle (sto L) ⟨p1, p2, p3, p4, f, b, t⟩)) := handle_any ⟨p1, p2, p3, p4, a1, c1, f, a2, c2, b, a3, c3, t⟩ w6 pt bt L HT6.out.k HIN6.out (hT.fresh HF06.out) (by show f.length ≤ _; omega) (by show b.length ≤ _; omega) (by show t.length ≤ _; omega) (by show p4.length ≤ _; omega)
              have hhr : ∀ w', RAt w' pv Ar cr Lr → RIn w' ⟨p1, p2, p3, p4, a1, c1, f, a2, c2, b, a3, c3, t⟩ → Calls Tryz.prog 16 #[.pointer (some ⟨pv, 0, none⟩), .agg #[.string ⟨p1.toArray⟩, .string ⟨p2.toArray⟩, .string ⟨p3.toArray⟩, .string ⟨p4.toArray⟩, .slice a1 f.length c1, .slice a2 b.length c2, .slice a3 t.length c3]] w' (RSR w' pv Ar Lr (rhandle (sto Lr) ⟨p1, p2, p3, p4, f, b, t⟩)) := fun w' h1 h2 => rhandle_any ⟨p1, p2, p3, p4, a1, c1, f, a2, c2, b, a3, c3, t⟩ w' pv cr Ar Lr h1 h2 (by show f.length ≤ _; omega) (by show b.length ≤ _; omega) (by show t.length ≤ _; omega) (by show p4.length ≤ _; omega)
              have hpm := (rhandle_ok HT6.out.pm HT6.out.r.srt ⟨p1, p2, p3, p4, f, b, t⟩).1
              generalize handle (sto L) ⟨p1, p2, p3, p4, f, b, t⟩ = res at *
              generalize rhandle (sto Lr) ⟨p1, p2, p3, p4, f, b, t⟩ = rres at *
              have hg7l := HB6.out.lt
              clear hqe hfl hbl htl hpl4 HQ HRC
              have HHA := Lib.hid hha
              have HHR := Lib.hid hhr
              have HPM := Lib.hid hpm
              clear hha hhr hpm
              go_upto_region 27 with (first
                | (refine wpList_load_agg agR rfl rfl rfl HB6.out rfl ?_)
                | (go_at_call 10; refine HHA.out.mono ?_; rintro e w8 ⟨⟨D1, d1, F2, D2, d2, B2, D3, d3, T2⟩, L', rfl, hm8, hK8, hs8, ho8⟩; simp only [MV.cells]))
              have hf68 := hm8.frm
              obtain ⟨hR8, hfar8⟩ := HT6.out.one ho8 hf68
              have hgbm : g7 ≠ bt := fun e => by
                obtain ⟨es, ck, hb, _⟩ := HT6.out.k.map
                have h1 := HB6.out
                unfold Blk at h1
                rw [e, hb] at h1
                cases h1
              have hb68 := HB6.out.keep hf68 (fun e => by rcases e with e | e; exact hgbm e; unfold New at e; omega)
              have hin8 : RIn w8 ⟨p1, p2, p3, p4, a1, c1, f, a2, c2, b, a3, c3, t⟩ := by
                have hkm := HT6.out.k.map
                refine ⟨HIN6.out.r1.keep2 hf68 (fun hn k hk e => ?_), HIN6.out.r2.keep2 hf68 (fun hn k hk e => ?_), HIN6.out.r3.keep2 hf68 (fun hn k hk e => ?_)⟩
                · have := HIN6.out.r1.blk_lt hn hk
                  rcases e with e | e; exact not_map hkm HIN6.out.r1 hn hk e; unfold New at e; omega
                · have := HIN6.out.r2.blk_lt hn hk
                  rcases e with e | e; exact not_map hkm HIN6.out.r2 hn hk e; unfold New at e; omega
                · have := HIN6.out.r3.blk_lt hn hk
                  rcases e with e | e; exact not_map hkm HIN6.out.r3 hn hk e; unfold New at e; omega
              have hhr8 := HHR.out w8 hR8 hin8
              have hF08 : Frm (New W) W w8 := HF06.out.trans (hf68.mono (fun z hz => by have := HF06.out.size; rcases hz with hz | hz; exact hz ▸ hbtW; unfold New at hz ⊢; omega))
              have hSd8 := HSD6.out.keepMap HT6.out.k.map hf68 hbqbm
              have hne := HT6.out.ne
              have hneb := HT6.out.neb
              clear hm8 ho8 hf68 HB6 HT6 HF06 HIN6 HHA HHR HSD6
              have HK8 := Lib.hid hK8
              have HS8 := Lib.hid hs8
              have HFAR8 := Lib.hid hfar8
              have HB68 := Lib.hid hb68
              have HHR8 := Lib.hid hhr8
              have HF08 := Lib.hid hF08
              have HNE := Lib.hid hne
              have HNEB := Lib.hid hneb
              have HSD8 := Lib.hid hSd8
              clear hK8 hs8 hfar8 hb68 hhr8 hF08 hne hneb hSd8
              go_wp2_with (first
                | (refine wpList_load_agg agR rfl rfl rfl HB68.out rfl ?_)
                | (go_at_call 16; refine HHR8.out.mono ?_; rintro e w9 ⟨X1, X2, X3, x1, x2, x3, y1, y2, y3, A9, c9, L9, rfl, hR9, hs9, hF9, ho9, hd9⟩; have hT9 := Lib.hid (TwoAt.two HNE.out HNEB.out HK8.out HFAR8.out hR9 hF9 (by rw [hs9, HS8.out]; exact HPM.out)); have hF09 : Hid (Frm (New W) W w9) := Lib.hid (HF08.out.trans (hF9.mono (fun z hz => by have := HF08.out.size; rcases hz with hz | hz; exact hz ▸ hpvW; unfold New at hz ⊢; omega))); have hSd9 := Lib.hid (HSD8.out.keep hF9 HX1.out HX2.out HX3.out HX4.out HX5.out HX6.out); clear hR9 hs9 hF9 ho9 hd9))
              go_roundw
              case rel => exact ⟨i + 1, L', L9, A9, c9, by omega, by go_num, hT9, hF09, hSd9⟩
              case measure => simp [intOf]; omega
            · have h0i : ((rc : Int) == 0) = false := beq_eq_false_iff_ne.2 (by omega)
              have h0j : ¬ (rc : Int) = 0 := by omega
              have H0 := Lib.hid h0
              clear h0
              go_wp2_with (fail)
              go_roundw
              case rel => exact ⟨i + 1, L, Lr, Ar, cr, by omega, by go_num, HT6, HF06, HSD6⟩
              case measure => simp [intOf]; omega
        · obtain rfl : i = ml.length := by omega
          clear hil hi
          have hsm1 := same_any wr p bm Lq hSd.out.k pw cq Aq Lqr hSd.out.r hSd.out.pm
          have hsm2 : ∀ w', Frm (New wr) wr w' → Calls Tryz.prog 18 #[.pointer (some ⟨pt, 0, none⟩), .pointer (some ⟨pv, 0, none⟩)] w' fun e w2 => e = .returned (.bool true) ∧ Frm (New w') w' w2 := fun w' f => same_any w' pt bt L (hTr.out.fresh f).k pv cr Ar Lr (hTr.out.fresh f).r hTr.out.pm
          clear hSd hTr
          have HSM1 := Lib.hid hsm1
          have HSM2 := Lib.hid hsm2
          clear hsm1 hsm2
          go_wp2_with (fail)
          refine HSM1.out.mono ?_
          rintro e w1 ⟨rfl, hF1⟩
          go_wp2_with (fail)
          refine (HSM2.out w1 hF1).mono ?_
          rintro e w2 ⟨rfl, hF2⟩
          go_wp2_with (fail)
          go_ret
          exact ⟨rfl, ((hFr.out.then_new Up.new hF1).then_new Up.new hF2).below⟩
end Go.Proofs.YtpojejdddgdjdaaGreatDoor.M
