/- The reference's Decoder: NewDecoder, bad, entry, Decode: what they return. Sizes below 2^36. -/
import Derived.Deep.CutBlock
import Derived.StillTailTactics
import Derived.Deep.RegionHeld3
import Derived.Test.YtcebckkpablagaaRence
import Derived.Test.YtcebckkpablagaaDecp
import Derived.Test.YtcebckkpablagaaKey
import Derived.Test.YtcebckkpablagaaStrd
import Derived.Test.YtcebckkpablagaaRtaba
import Derived.Test.YtcebckkpablagaaIn
namespace Go.Proofs.Ytcebckkpablagaa.M
open Go.ChangeShapes Go.WideShapes Go.ChangeAt Go.RowKit

/-- the reference's decoder at block p: its table at g -/
structure RDeAt (S : Nat → Prop) (w : World) (p g : Nat) (D : De) : Prop where
  blk : Blk w p 61 #[.pointer (some ⟨g, 0, none⟩), .int .i64 D.max, .bool D.must, .bool D.bad]
  tab : RTabS S w g D.t
  out : ¬ S p
  cap : D.t.cap ≤ 4096
  max : D.max ≤ 4096
  ok : D.t.Ok
section
variable {S M : Nat → Prop} {w w' : World} {p g : Nat} {D : De}
theorem RDeAt.keep (h : RDeAt S w p g D) (f : Frm M w w') (hM : ∀ k, S k → ¬ M k) (hp : ¬ M p) : RDeAt S w' p g D :=
  { h with blk := h.blk.keep f hp, tab := h.tab.keep f hM }
theorem RDeAt.fresh (h : RDeAt S w p g D) (f : Frm (New w) w w') : RDeAt S w' p g D :=
  { h with blk := h.blk.fresh f, tab := h.tab.fresh f }
end

set_option maxRecDepth 100000 in
set_option maxHeartbeats 1000000 in
theorem rdnew_any (n : Int) (h0 : -9223372036854775808 ≤ n) (h1 : n ≤ 9223372036854775807) (w : World) :
    Calls Try.prog 26 #[.int .i64 n] w fun e w' => ∃ (S : Nat → Prop) (p g : Nat), e = .returned (.pointer (some ⟨p, 0, none⟩)) ∧ RDeAt S w' p g ⟨⟨[], 0, lim n⟩, lim n, false, false⟩ ∧ Frm (New w) w w' ∧ (∀ k, S k → w.heap.size ≤ k) ∧ w.heap.size ≤ p := by
  have hlim := lim_le n
  have hc := fun w => clamp_any n h0 h1 w
  generalize lim n = c at *
  have HC := Lib.hid hc
  clear hc
  have t1 := trivial
  go_enter Try.func26, Try.ntmps26
  go_wp2_with (first
    | (go_at_call 55; refine (HC.out _).mono ?_; rintro e w1 ⟨rfl, hw1⟩; rw [hw1]; clear hw1 w1)
    | (go_at_call 54
       refine (rtnew_any c (by omega) _).mono ?_
       rintro e w2 ⟨S, g, rfl, hT, hF, hS⟩
       have HT := Lib.hid hT
       have HF := Lib.hid hF
       have HS := Lib.hid hS
       clear hT hF hS))
  go_ret
  have hF3 : Frm (New w2) w2 (w2.alloc (Obj.cells #[.pointer (some ⟨g, 0, none⟩), .int .i64 c, .bool false, .bool false] 61)) := (Frm.refl _ _).alloc Up.new _
  have hb := Blk.new w2 61 #[.pointer (some ⟨g, 0, none⟩), .int .i64 c, .bool false, .bool false]
  refine ⟨S, w2.heap.size, g, rfl, ?_, HF.out.then_new Up.new hF3, HS.out, HF.out.size⟩
  refine ⟨hb, ⟨none, 0, HT.out.fresh hF3⟩, fun c => ?_, hlim, hlim, ⟨Nat.le_refl _, Nat.zero_le _⟩⟩
  have := HT.out.low _ c
  omega

set_option maxRecDepth 100000 in
set_option maxHeartbeats 1000000 in
theorem rbad_any {S : Nat → Prop} {p g : Nat} {D : De} (w : World) (h : RDeAt S w p g D) :
    Calls Try.prog 61 #[.pointer (some ⟨p, 0, none⟩)] w fun e w' => e = .returned (.tuple #[.slice none 0 0, .int .i64 26]) ∧ RDeAt S w' p g { D with bad := true } ∧ Frm (fun k => k = p) w w' := by
  have hb := h.blk
  have hp := hb.lt
  have hz3 := hb.frozen 3
  have hd3 := hb.cell 3
  simp only [List.getElem?_toArray, List.getElem?_cons_zero, List.getElem?_cons_succ] at hd3
  have H := Lib.hid h
  have HB := Lib.hid hb
  clear h hb
  go_enter Try.func61, Try.ntmps61
  go_wp2
  go_ret2
  have hb3 := HB.out.set_ 3 (.bool true)
  have hF3 : Frm (fun k => k = p) w (w.setCell ⟨p, 3, none⟩ (.bool true)) := (Frm.refl (fun k => k = p) w).setCell (p := ⟨p, 3, none⟩) rfl _
  refine ⟨rfl, ⟨by simpa using hb3, H.out.tab.keep hF3 (fun k hk e => H.out.out (by rw [← e]; exact hk)), H.out.out, H.out.cap, H.out.max, H.out.ok⟩, hF3⟩

/-- an entry, and whether there is one -/
def entryV (o : Option Fld) : Fld × Bool := match o with | some f => (f, true) | none => (([], []), false)
theorem entry_newest (T : Tb) (i : Nat) (h : 61 < i) : entryV (entryS T i) = newestS T.l (i - 62) := by
  unfold entryS newestS
  rw [if_neg (by omega), if_neg (by omega)]
  by_cases h1 : i - 62 < T.l.length
  · rw [if_pos h1, dif_pos h1, List.getElem?_eq_getElem (by omega)]; rfl
  · rw [if_neg h1, dif_neg h1]; rfl
theorem h2_61 : h2tab.length = 61 := by decide
theorem entry_static (T : Tb) (i : Nat) (h0 : i ≠ 0) (h : i ≤ 61) : entryV (entryS T i) = (h2tab[i - 1]'(by rw [h2_61]; omega), true) := by
  have hl := h2_61
  unfold entryS
  rw [if_neg h0, if_pos h, List.getElem?_eq_getElem (by omega)]; rfl

set_option maxRecDepth 100000 in
set_option maxHeartbeats 2000000 in
theorem rentry_any {S : Nat → Prop} {p g : Nat} {D : De} (i : Nat) (w : World) (h : RDeAt S w p g D) (hi : i ≤ 18446744073709551615) :
    Calls Try.prog 63 #[.pointer (some ⟨p, 0, none⟩), .int .u64 i] w fun e w' => e = .returned (.tuple #[fld (entryV (entryS D.t i)).1, .bool (entryV (entryS D.t i)).2]) ∧ Frm (New w) w w' := by
  have h61 := h2_61
  have hB1 := Blk.new w 30 #[.string ⟨#[]⟩, .string ⟨#[]⟩]
  have hF1 : Frm (New w) w (w.alloc (Obj.cells #[.string ⟨#[]⟩, .string ⟨#[]⟩] 30)) := (Frm.refl _ _).alloc Up.new _
  have h1w := h.fresh hF1
  have hb1 : w.heap.size < (w.alloc (Obj.cells #[.string ⟨#[]⟩, .string ⟨#[]⟩] 30)).heap.size := hB1.lt
  by_cases h0 : i = 0
  · subst h0
    have hE : Hid (entryV (entryS D.t 0) = (([], []), false)) := rfl
    have H := Lib.hid h
    have HB1 := Lib.hid hB1
    have HF1 := Lib.hid hF1
    have H1W := Lib.hid h1w
    clear h hB1 hF1 h1w
    go_enter Try.func63, Try.ntmps63
    go_upto_region 1 with (fail)
    generalize w.alloc (Obj.cells #[.string ⟨#[]⟩, .string ⟨#[]⟩] 30) = w1 at *
    have hB := HB1.out
    have hx1 := hB.cell 0
    have hx2 := hB.cell 1
    simp only [List.getElem?_toArray, List.getElem?_cons_zero, List.getElem?_cons_succ] at hx1 hx2
    have hz1 := hB.frozen 0
    have hz2 := hB.frozen 1
    clear hB
    generalize hb : w.heap.size = b at *
    have HB := Lib.hid hb
    clear hb
    rw [show ((0 : Nat) : Int) = 0 from rfl]
    go_wp2
    refine bodyPost_ret (results_agg_tmp aggf rfl rfl rfl ((HB1.out.set_ 0 (.string ⟨#[]⟩)).set_ 1 (.string ⟨#[]⟩)) rfl) rfl ?_
    rw [hE.out]
    exact ⟨rfl, (HF1.out.setCell (p := ⟨b, 0, none⟩) (by have := HB.out; unfold New; simp only; omega) _).setCell (p := ⟨b, 1, none⟩) (by have := HB.out; unfold New; simp only; omega) _⟩
  · have h0' : ((i : Int) == 0) = false := by rw [beq_eq_false_iff_ne]; omega
    by_cases h1 : i ≤ 61
    · have hE := entry_static D.t i h0 h1
      have h1' : (i : Int) ≤ 61 := by omega
      have hw1 : IntKind.u64.wrap ((i : Int) - 1) = ((i - 1 : Nat) : Int) := by
        rw [show ((i : Int) - 1) = ((i - 1 : Nat) : Int) from by omega]; exact IntWalk.u64_in _ (by omega)
      have hi61 : i - 1 < 61 := by omega
      have H := Lib.hid h
      have HB1 := Lib.hid hB1
      have HF1 := Lib.hid hF1
      have H1W := Lib.hid h1w
      clear h hB1 hF1 h1w
      go_enter Try.func63, Try.ntmps63
      go_upto_region 1 with (fail)
      generalize w.alloc (Obj.cells #[.string ⟨#[]⟩, .string ⟨#[]⟩] 30) = w1 at *
      generalize hb : w.heap.size = b at *
      have HB := Lib.hid hb
      clear hb
      go_upto_region 4 with (go_at_call 43; refine (h2s_any _).mono ?_; rintro e w2 ⟨gs, rfl, hgs, hbs, hF2⟩)
      have hR : Rd w2 (some ⟨gs, 0, none⟩) (fvs h2tab) := by simpa using hbs.rd
      obtain ⟨hc1, hc2⟩ := fld_cells hR (i - 1) (by omega)
      have hgs2 := hbs.lt
      have hB2 := HB1.out.fresh hF2
      clear hR hbs
      generalize h2tab[i - 1] = f at *
      obtain ⟨f1, f2⟩ := f
      simp only [str, Nat.zero_add] at hc1 hc2
      have hx1 := hB2.cell 0
      have hx2 := hB2.cell 1
      simp only [List.getElem?_toArray, List.getElem?_cons_zero, List.getElem?_cons_succ] at hx1 hx2
      have hz1 := hB2.frozen 0
      have hz2 := hB2.frozen 1
      have hb2 := hB2.lt
      have hne : ¬ b = gs := by omega
      have hne2 : ¬ gs = b := by omega
      have hF12 : Frm (New w) w w2 := HF1.out.then_new Up.new hF2
      have HB2 := Lib.hid hB2
      have HF12 := Lib.hid hF12
      have HE := Lib.hid hE
      clear hB2 hF12 hE
      clear hF2
      generalize i - 1 = j at *
      go_wp2
      refine bodyPost_ret (results_agg_tmp aggf rfl rfl rfl ((HB2.out.set_ 0 (.string ⟨f1.toArray⟩)).set_ 1 (.string ⟨f2.toArray⟩)) rfl) rfl ?_
      rw [HE.out]
      exact ⟨rfl, (HF12.out.setCell (p := ⟨b, 0, none⟩) (by have := HB.out; unfold New; simp only; omega) _).setCell (p := ⟨b, 1, none⟩) (by have := HB.out; unfold New; simp only; omega) _⟩
    · have hE := entry_newest D.t i (by omega)
      have h1' : ¬ (i : Int) ≤ 61 := by omega
      have hw1 : IntKind.u64.wrap ((i : Int) - 61) = ((i - 61 : Nat) : Int) := by
        rw [show ((i : Int) - 61) = ((i - 61 : Nat) : Int) from by omega]; exact IntWalk.u64_in _ (by omega)
      have hw2 : IntKind.u64.wrap (((i - 61 : Nat) : Int) - 1) = ((i - 62 : Nat) : Int) := by
        rw [show (((i - 61 : Nat) : Int) - 1) = ((i - 62 : Nat) : Int) from by omega]; exact IntWalk.u64_in _ (by omega)
      have hnw := fun w' (h' : RDeAt S w' p g D) => rnewest_any (i - 62) w' h'.tab (by omega)
      have h62 : i - 62 ≤ 18446744073709551615 := by omega
      generalize i - 62 = j at *
      generalize newestS D.t.l j = q at *
      obtain ⟨⟨f1, f2⟩, ok⟩ := q
      simp only [fld, str] at hnw
      have H := Lib.hid h
      have HE := Lib.hid hE
      have HB1 := Lib.hid hB1
      have HF1 := Lib.hid hF1
      have H1W := Lib.hid h1w
      have HNW := Lib.hid hnw
      clear h hE hB1 hF1 h1w hnw
      go_enter Try.func63, Try.ntmps63
      go_upto_region 1 with (fail)
      generalize w.alloc (Obj.cells #[.string ⟨#[]⟩, .string ⟨#[]⟩] 30) = w1 at *
      generalize hb : w.heap.size = b at *
      have HB := Lib.hid hb
      clear hb
      go_upto_region 4 with (go_at_call 43; refine (h2s_any _).mono ?_; rintro e w2 ⟨gs, rfl, hgs, hbs, hF2⟩)
      have hB2 := HB1.out.fresh hF2
      have h2w := H1W.out.fresh hF2
      have hb2 := hB2.lt
      have hpb := h2w.blk
      have hd0 := hpb.cell 0
      simp only [List.getElem?_toArray, List.getElem?_cons_zero] at hd0
      have hp2 := h2w.blk.lt
      have hF12 : Frm (New w) w w2 := HF1.out.then_new Up.new hF2
      have HB2 := Lib.hid hB2
      have HF12 := Lib.hid hF12
      have H2W := Lib.hid h2w
      have HPB := Lib.hid hpb
      clear hB2 hF12 h2w hpb
      clear hF2 hbs hgs
      go_wp2_with (fail)
      refine (HNW.out w2 H2W.out).mono ?_
      rintro e w3 ⟨rfl, hF3⟩
      have hB3 := HB2.out.fresh hF3
      have hx1 := hB3.cell 0
      have hx2 := hB3.cell 1
      simp only [List.getElem?_toArray, List.getElem?_cons_zero, List.getElem?_cons_succ] at hx1 hx2
      have hz1 := hB3.frozen 0
      have hz2 := hB3.frozen 1
      have hb3 := hB3.lt
      have hF13 : Frm (New w) w w3 := HF12.out.then_new Up.new hF3
      have HB3 := Lib.hid hB3
      have HF13 := Lib.hid hF13
      clear hB3 hF13
      clear hF3 hd0 hp2 hb2
      go_wp2
      refine bodyPost_ret (results_agg_tmp aggf rfl rfl rfl ((HB3.out.set_ 0 (.string ⟨f1.toArray⟩)).set_ 1 (.string ⟨f2.toArray⟩)) rfl) rfl ?_
      rw [HE.out]
      exact ⟨rfl, (HF13.out.setCell (p := ⟨b, 0, none⟩) (by have := HB.out; unfold New; simp only; omega) _).setCell (p := ⟨b, 1, none⟩) (by have := HB.out; unfold New; simp only; omega) _⟩

/-- Decode's loop, what lies in memory: the table T, the fields out, what is left r -/
structure RDM (w : World) (S : Nat → Prop) (p g : Nat) (D : De) (S' : Nat → Prop) (T : Tb) (out : List Fld) (r : Bytes) (A : Option Addr) (c : Nat) (Ao : Option Addr) (co : Nat) (wr : World) : Prop where
  de : RDeAt S' wr p g { D with t := T }
  rd : Rd wr A (bvs r)
  rc : r.length ≤ c
  far : ∀ k, blk A = some k → k ≠ p ∧ ¬ S k ∧ k < w.heap.size
  app : App (New w) wr 30 2 Ao out.length co (fvs out)
  ofar : ∀ k, blk Ao = some k → ¬ S' k ∧ k < wr.heap.size
  pw : p < w.heap.size
  frm : Frm (fun k => k = p ∨ Own S w k) w wr
  sub : ∀ k, S' k → Own S w k
section
variable {w wr w' : World} {S S' : Nat → Prop} {p g c co : Nat} {D : De} {T : Tb} {out : List Fld} {r : Bytes} {A Ao : Option Addr}
theorem RDM.fresh (h : RDM w S p g D S' T out r A c Ao co wr) (f : Frm (New wr) wr w') : RDM w S p g D S' T out r A c Ao co w' :=
  { h with
    de := h.de.fresh f
    rd := h.rd.fresh f
    app := h.app.fresh f
    ofar := fun k hk => ⟨(h.ofar k hk).1, Nat.lt_of_lt_of_le (h.ofar k hk).2 f.size⟩
    frm := h.frm.trans (f.mono (fun _ hk => .inr (.inr (Nat.le_trans h.frm.size hk)))) }
theorem RDM.cells (h : RDM w S p g D S' T out r A c Ao co wr) : wr.cell? ⟨p, 0, none⟩ = some (.pointer (some ⟨g, 0, none⟩)) ∧ wr.cell? ⟨p, 1, none⟩ = some (.int .i64 D.max) ∧ wr.cell? ⟨p, 2, none⟩ = some (.bool D.must) ∧ wr.cell? ⟨p, 3, none⟩ = some (.bool D.bad) ∧ p < wr.heap.size ∧
    wr.frozen? ⟨p, 2, none⟩ = false := by
  have hb := h.de.blk
  have h0 := hb.cell 0
  have h1 := hb.cell 1
  have h2 := hb.cell 2
  have h3 := hb.cell 3
  simp only [List.getElem?_toArray, List.getElem?_cons_zero, List.getElem?_cons_succ] at h0 h1 h2 h3
  exact ⟨h0, h1, h2, h3, hb.lt, hb.frozen 2⟩
/-- the first byte -/
theorem RDM.head (h : RDM w S p g D S' T out r A c Ao co wr) {x : UInt8} {t : Bytes} (hr : r = x :: t) : ∃ gb off, A = some ⟨gb, off, none⟩ ∧ wr.cell? ⟨gb, off, none⟩ = some (.int .u8 (x.toNat : Int)) := by
  subst hr
  obtain ⟨gb, off, h1, h2⟩ := h.rd.at_ (k := 0) (by simp)
  exact ⟨gb, off, h1, by simpa [bvs, bv] using h2⟩
theorem RDM.cut (h : RDM w S p g D S' T out r A c Ao co wr) (k : Nat) : ∃ A2, (if c = k then A else A.map (·.add k)) = A2 ∧ RDM w S p g D S' T out (r.drop k) A2 (c - k) Ao co wr := by
  obtain ⟨A2, h1, h2⟩ := h.rd.from_ h.rc k
  refine ⟨A2, h1, { h with rd := h2, rc := by rw [List.length_drop]; have := h.rc; omega, far := fun j hj => h.far j ?_ }⟩
  rw [← hj, ← h1]
  split
  · rfl
  · cases A with
    | none => rfl
    | some x => simp only [M.blk, Option.map_some, Addr.add]; split <;> rfl
theorem RDM.resize (h : RDM w S p g D S' T out r A c Ao co wr) (n : Nat) (hn : n ≤ 4096) (hT : RTabS S' w' g (T.resize n)) (f : Frm (fun k => k = g) wr w') : RDM w S p g D S' (T.resize n) out r A c Ao co w' := by
  have hg := h.de.tab.sg
  have hpg : p ≠ g := fun e => h.de.out (by rw [e]; exact hg)
  have hgS := h.sub g hg
  refine { h with
    de := ⟨h.de.blk.keep f hpg, hT, h.de.out, hn, h.de.max, h.de.ok.resize n⟩
    rd := h.rd.keep f (fun k hk e => ?_)
    app := h.app.keep f (fun k hk e => ?_)
    ofar := fun k hk => ⟨(h.ofar k hk).1, Nat.lt_of_lt_of_le (h.ofar k hk).2 f.size⟩
    frm := h.frm.trans (f.mono (fun k hk => .inr (by rw [hk]; exact hgS))) }
  · obtain ⟨a1, a2, a3⟩ := h.far k hk
    rcases hgS with c | c
    · exact a2 (by rw [e]; exact c)
    · (try unfold New at c); omega
  · exact (h.ofar k hk).1 (by rw [e]; exact hg)
/-- what an append to the fields may write -/
theorem RDM.appM (h : RDM w S p g D S' T out r A c Ao co wr) : App (Mb Ao wr) wr 30 2 Ao out.length co (fvs out) := h.app.in_ (fun _ hk => .inl hk)
theorem RDM.append (h : RDM w S p g D S' T out r A c Ao co wr) {out2 : List Fld} {A2 : Option Addr} {c2 : Nat} (ha : App (Mb Ao wr) w' 30 2 A2 out2.length c2 (fvs out2)) (hne : out2 ≠ []) (f : Frm (Mb Ao wr) wr w') :
    RDM w S p g D S' T out2 r A c A2 c2 w' := by
  have hs := h.frm.size
  have hM : ∀ k, Mb Ao wr k → New w k := fun k hk => by
    rcases hk with hk | hk
    · exact h.app.inM k hk
    · exact Nat.le_trans hs hk
  have hS : ∀ k, S' k → ¬ Mb Ao wr k := fun k hk c => by
    rcases c with c | c
    · exact (h.ofar k c).1 hk
    · have := h.de.tab.low k hk; omega
  have hpM : ¬ Mb Ao wr p := fun c => by have := hM p c; have := h.pw; unfold New at *; omega
  refine { h with
    de := h.de.keep f hS hpM
    rd := h.rd.keep f (fun k hk e => by have := hM k e; have := h.far k hk; unfold New at *; omega)
    app := ha.mono hM
    ofar := fun k hk => ⟨fun c => hS k c (ha.inM k hk), ?_⟩
    frm := h.frm.trans (f.mono (fun k hk => .inr (.inr (hM k hk)))) }
  obtain ⟨gg, off, e1, e2⟩ := ha.rd.lt (by intro c; have := congrArg List.length c; rw [fvs_length] at this; simp at this; exact hne (List.eq_nil_of_length_eq_zero (by omega)))
  rw [e1] at hk
  cases hk
  exact e2
theorem RDM.add (h : RDM w S p g D S' T out r A c Ao co wr) (x : Fld) {S2 : Nat → Prop} (hT : RTabS S2 w' g (T.add x)) (f : Frm (fun k => k = g ∨ New wr k) wr w') (hS : ∀ k, S2 k → Own S' wr k) :
    RDM w S p g D S2 (T.add x) out r A c Ao co w' := by
  have hg := h.de.tab.sg
  have hpg : p ≠ g := fun e => h.de.out (by rw [e]; exact hg)
  have hgS := h.sub g hg
  have hs := h.frm.size
  have hpw := h.pw
  have hp := h.de.blk.lt
  refine { h with
    de := ⟨h.de.blk.keep f (fun c => ?_), hT, fun c => ?_, by rw [Tb.add_cap]; exact h.de.cap, h.de.max, h.de.ok.add x⟩
    rd := h.rd.keep f (fun k hk e => ?_)
    app := h.app.keep f (fun k hk e => ?_)
    ofar := fun k hk => ⟨fun c => ?_, Nat.lt_of_lt_of_le (h.ofar k hk).2 f.size⟩
    frm := h.frm.trans (f.mono (fun k hk => ?_))
    sub := fun k hk => ?_ }
  · rcases c with c | c
    · exact hpg c
    · (try unfold New at c); omega
  · rcases hS p c with c | c
    · exact h.de.out c
    · (try unfold New at c); omega
  · obtain ⟨a1, a2, a3⟩ := h.far k hk
    rcases e with e | e
    · rcases hgS with c | c
      · exact a2 (by rw [e]; exact c)
      · (try unfold New at c); omega
    · (try unfold New at e); omega
  · obtain ⟨a1, a2⟩ := h.ofar k hk
    rcases e with e | e
    · exact a1 (by rw [e]; exact hg)
    · (try unfold New at e); omega
  · obtain ⟨a1, a2⟩ := h.ofar k hk
    rcases hS k c with c | c
    · exact a1 c
    · (try unfold New at c); omega
  · rcases hk with hk | hk
    · exact .inr (by rw [hk]; exact hgS)
    · exact .inr (.inr (Nat.le_trans hs hk))
  · rcases hS k hk with c | c
    · exact h.sub k c
    · exact .inr (Nat.le_trans hs c)
end

/-- a variable of the round's own, at block bx -/
structure BoxC (w : World) (p : Nat) (S' : Nat → Prop) (Ao : Option Addr) (bx : Nat) : Prop where
  bp : p ≠ bx
  bS : ¬ S' bx
  bo : ∀ k, blk Ao = some k → k ≠ bx
  bw : w.heap.size ≤ bx
theorem RDM.boxc {w wr : World} {S S' : Nat → Prop} {p g c co : Nat} {D : De} {T : Tb} {out : List Fld} {r : Bytes} {A Ao : Option Addr} (h : RDM w S p g D S' T out r A c Ao co wr) : BoxC w p S' Ao wr.heap.size := by
  have hs := h.frm.size
  have hpw := h.pw
  exact ⟨by omega, fun c => by have := h.de.tab.low _ c; omega, fun k hk => by have := (h.ofar k hk).2; omega, hs⟩
theorem RDM.box {w wr w' : World} {S S' : Nat → Prop} {p g c co bx : Nat} {D : De} {T : Tb} {out : List Fld} {r : Bytes} {A Ao : Option Addr} (h : RDM w S p g D S' T out r A c Ao co wr) (hb : BoxC w p S' Ao bx) (f : Frm (fun k => k = bx) wr w') :
    RDM w S p g D S' T out r A c Ao co w' :=
  { h with
    de := h.de.keep f (fun k hk e => hb.bS (by rw [← e]; exact hk)) hb.bp
    rd := h.rd.keep f (fun k hk e => by have h1 := (h.far k hk).2.2; have h2 := hb.bw; omega)
    app := h.app.keep f (fun k hk e => hb.bo k hk e)
    ofar := fun k hk => ⟨(h.ofar k hk).1, Nat.lt_of_lt_of_le (h.ofar k hk).2 f.size⟩
    frm := h.frm.trans (f.mono (fun k hk => .inr (.inr (by rw [hk]; exact hb.bw)))) }
theorem ugoF_le {lk : Nat → Nat → Option Nat} : ∀ (l : List Nat) (c n : Nat) (ones : Bool) (out : Bytes), out.length ≤ 4096 → (ugoF lk l c n ones out).1.length ≤ 4096
  | [], c, n, ones, out, h => by
    rw [ugoF_nil]
    split
    · exact Nat.zero_le _
    · exact h
  | x :: r, c, n, ones, out, h => by
    cases hl : lk (n + 1) (2 * c + x) with
    | none => rw [ugoF_none _ _ _ hl]; exact ugoF_le r _ _ _ _ h
    | some s =>
      rw [ugoF_some _ _ _ hl]
      split
      · exact Nat.zero_le _
      · split
        · exact Nat.zero_le _
        · exact ugoF_le r _ _ _ _ (by simp; omega)
theorem unhuf_le (b : Bytes) : (unhuf b).1.length ≤ 4096 := ugoF_le (lk := look) _ _ _ _ _ (by simp)
theorem strD_le (b : Bytes) (k : Nat) : (strD b k).1.length ≤ 4096 := by
  unfold strD
  generalize rdp b k = q
  obtain ⟨n, at_, e⟩ := q
  simp only
  split
  · exact Nat.zero_le _
  · split
    · exact Nat.zero_le _
    · split
      · exact Nat.zero_le _
      · split
        · exact Nat.le_trans (List.length_take_le _ _) (by omega)
        · have := unhuf_le ((b.drop at_).take n)
          generalize unhuf ((b.drop at_).take n) = q at *
          obtain ⟨s, e2⟩ := q
          simp only at this ⊢
          split
          · exact Nat.zero_le _
          · exact this
theorem fsize_mem : ∀ (l : List Fld) (f : Fld), f ∈ l → fsize f ≤ fsizes l
  | x :: r, f, h => by
    rw [fsizes_cons]
    rcases List.mem_cons.1 h with rfl | h
    · omega
    · have := fsize_mem r f h; omega
theorem h2_small : ∀ f ∈ h2tab, fsize f ≤ 4096 := by decide
theorem entry_small {T : Tb} {i : Nat} {f : Fld} (ho : T.Ok) (hc : T.cap ≤ 4096) (h : entryS T i = some f) : fsize f ≤ 4096 := by
  unfold entryS at h
  split at h
  · cases h
  · split at h
    · exact h2_small f (List.mem_of_getElem? h)
    · split at h
      · have h1 := fsize_mem T.l f (List.mem_of_getElem? h)
        have h2 := ho.fits
        omega
      · cases h
theorem Tb.add_n (T : Tb) (f : Fld) : (T.add f).n ≤ T.n + 1 := by
  unfold Tb.add
  split
  · exact Nat.le_refl _
  · exact Nat.le_succ _
theorem rdp_le (b : Bytes) (k : Nat) (hk : 2 ^ k ≤ 256) : (rdp b k).1 ≤ 4611686018427387903 := by
  by_cases h : (rdp b k).2.2 = 0
  · exact (rdp_range b k hk h).2.2
  · cases b with
    | nil => simp [rdp]
    | cons c r =>
      unfold rdp at h ⊢
      simp only at h ⊢
      by_cases h1 : c.toNat % 2 ^ k < 2 ^ k - 1
      · rw [if_pos h1] at h; exact absurd rfl h
      · rw [if_neg h1] at h ⊢
        rcases rdMore_err r 10 1 (2 ^ k - 1) with h2 | h2 | h2
        · exact absurd h2 h
        · rw [h2]; exact Nat.zero_le _
        · rw [h2]; exact Nat.zero_le _
theorem decGo_line {max fu sz : Nat} {must : Bool} {T : Tb} {out : List Fld} {r : Bytes} {o : Option (List Fld × Tb)} {x : Fld} {add : Bool} {r2 : Bytes} (h : o = match lineD T r with
      | none => none
      | some (y, add, b) => decGo max must fu (if add then T.add y else T) sz (out ++ [y]) b) (hl : lineD T r = some (x, add, r2)) : o = decGo max must fu (if add then T.add x else T) sz (out ++ [x]) r2 := by
  rw [h, hl]
theorem decGo_none {max fu sz : Nat} {must : Bool} {T : Tb} {out : List Fld} {r : Bytes} {o : Option (List Fld × Tb)} (h : o = match lineD T r with
      | none => none
      | some (y, add, b) => decGo max must fu (if add then T.add y else T) sz (out ++ [y]) b) (hl : lineD T r = none) : o = none := by
  rw [h, hl]

/-- what Decode comes to -/
def RDRes (w : World) (S : Nat → Prop) (p g : Nat) (D : De) (o : Option (List Fld × Tb)) (e : Ending) (w' : World) : Prop :=
  ∃ S' D', RDeAt S' w' p g D' ∧ Frm (fun k => k = p ∨ Own S w k) w w' ∧ (∀ k, S' k → Own S w k) ∧
    match o with
    | some (l, T) => ∃ A c, e = .returned (.tuple #[.slice A l.length c, .int .i64 0]) ∧ App (New w) w' 30 2 A l.length c (fvs l) ∧ (∀ k, blk A = some k → ¬ S' k) ∧ D' = ⟨T, D.max, false, false⟩
    | none => e = .returned (.tuple #[.slice none 0 0, .int .i64 26]) ∧ D'.bad = true
/-- a block that is refused -/
theorem rdm_bad {w wr w' : World} {S S' : Nat → Prop} {p g c co : Nat} {D : De} {T : Tb} {out : List Fld} {r : Bytes} {A Ao : Option Addr} {o : Option (List Fld × Tb)} (h : RDM w S p g D S' T out r A c Ao co wr) (ho : o = none) (h2 : RDeAt S' w' p g ⟨T, D.max, D.must, true⟩) (f : Frm (fun k => k = p) wr w') :
    RDRes w S p g D o (.returned (.tuple #[.slice none 0 0, .int .i64 26])) w' := by
  subst ho
  exact ⟨S', _, h2, h.frm.trans (f.mono (fun k hk => .inl hk)), h.sub, rfl, rfl⟩
theorem rdm_done {w wr : World} {S S' : Nat → Prop} {p g c co : Nat} {D : De} {T : Tb} {out : List Fld} {r : Bytes} {A Ao : Option Addr} {o : Option (List Fld × Tb)} (h : RDM w S p g D S' T out r A c Ao co wr) (ho : o = some (out, T)) (hb : D.bad = false) :
    RDRes w S p g D o (.returned (.tuple #[.slice Ao out.length co, .int .i64 0])) (wr.setCell ⟨p, 2, none⟩ (.bool false)) := by
  subst ho
  have hb2 := h.de.blk.set_ 2 (.bool false)
  have hF : Frm (fun k => k = p) wr (wr.setCell ⟨p, 2, none⟩ (.bool false)) := (Frm.refl (fun k => k = p) wr).setCell (p := ⟨p, 2, none⟩) rfl _
  have hpw := h.pw
  refine ⟨S', ⟨T, D.max, false, false⟩, ⟨by simpa [hb] using hb2, h.de.tab.keep hF (fun k hk e => h.de.out (by rw [← e]; exact hk)), h.de.out, h.de.cap, h.de.max, h.de.ok⟩, h.frm.trans (hF.mono (fun k hk => .inl hk)), h.sub, Ao, co, rfl, h.app.keep hF (fun k hk e => ?_), fun k hk => (h.ofar k hk).1, rfl⟩
  have := h.app.inM k hk
  unfold New at this
  omega
theorem and_224 (x : Nat) (hx : x < 256) : (bits .and .u8 (x : Int) 224 == 32) = decide (x / 32 = 1) := by
  have key : ∀ x : Fin 256, (bits .and .u8 (x.val : Int) 224 == 32) = decide (x.val / 32 = 1) := by decide +kernel
  exact key ⟨x, hx⟩
theorem and_128n (x : Nat) (hx : x < 256) : (bits .and .u8 (x : Int) 128 == 0) = decide (x < 128) := by
  have key : ∀ x : Fin 256, (bits .and .u8 (x.val : Int) 128 == 0) = decide (x.val < 128) := by decide +kernel
  exact key ⟨x, hx⟩
theorem and_64n (x : Nat) (hx : x < 256) : (bits .and .u8 (x : Int) 64 == 0) = decide (x / 64 % 2 = 0) := by
  have key : ∀ x : Fin 256, (bits .and .u8 (x.val : Int) 64 == 0) = decide (x.val / 64 % 2 = 0) := by decide +kernel
  exact key ⟨x, hx⟩
def lenOf : Value → Nat
  | .slice _ n _ => n
  | _ => 0

set_option maxRecDepth 100000 in
set_option maxHeartbeats 4000000 in
theorem rdecode_any {S : Nat → Prop} {p g : Nat} {D : De} (b : Bytes) (A0 : Option Addr) (c0 : Nat) (w : World) (h : RDeAt S w p g D) (hR : Rd w A0 (bvs b)) (hc : b.length ≤ c0)
    (hfar : ∀ k, blk A0 = some k → k ≠ p ∧ ¬ S k ∧ k < w.heap.size) (hl : b.length ≤ 68719476736) (hn : D.bad = false → D.t.n + b.length ≤ 1152921504606846976) :
    Calls Try.prog 30 #[.pointer (some ⟨p, 0, none⟩), .slice A0 b.length c0] w (RDRes w S p g D (D.run b)) := by
  have hb := h.blk
  have hd3 := hb.cell 3
  simp only [List.getElem?_toArray, List.getElem?_cons_zero, List.getElem?_cons_succ] at hd3
  have hp := hb.lt
  cases hbad : D.bad with
  | true =>
    have hrun : Hid (D.run b = none) := by show _ = _; unfold De.run; rw [if_pos hbad]
    rw [hbad] at hd3
    have H := Lib.hid h
    have HB := Lib.hid hb
    have HR := Lib.hid hR
    have HFAR := Lib.hid hfar
    have HBAD := Lib.hid hbad
    clear h hb hR hfar hbad
    go_enter Try.func30, Try.ntmps30
    go_wp2
    go_ret2
    rw [hrun.out]
    exact ⟨S, D, H.out, Frm.refl _ _, fun k hk => .inl hk, rfl, HBAD.out⟩
  | false =>
    have hrun : Hid (D.run b = decGo D.max D.must b.length D.t 0 [] b) := by show _ = _; unfold De.run; rw [if_neg (by rw [hbad]; simp)]
    have HM : Hid (RDM w S p g D S D.t [] b A0 c0 none 0 w) := ⟨h, hR, hc, hfar, App.none_, fun k hk => (by cases hk), hp, Frm.refl _ _, fun k hk => .inl hk⟩
    have hn := hn hbad
    have hmax := h.max
    have hbad2 : Hid (D.bad = false) := hbad
    rw [hbad] at hd3
    have H := Lib.hid h
    have HB := Lib.hid hb
    have HR := Lib.hid hR
    have HFAR := Lib.hid hfar
    have HBAD := Lib.hid hbad
    clear h hb hR hfar hbad
    go_enter Try.func30, Try.ntmps30
    go_wp2
    go_loopw [1, 6, 7] (fun vb vo vs wr => ∃ (fu : Nat) (T : Tb) (sz : Nat) (out : List Fld) (r : Bytes) (A : Option Addr) (c : Nat) (Ao : Option Addr) (co : Nat) (S' : Nat → Prop), vb = .slice A r.length c ∧ vo = .slice Ao out.length co ∧ vs = .int .i64 sz ∧
      r.length ≤ fu ∧ sz ≤ 2 ∧ out.length ≤ 64 ∧ r.length ≤ 68719476736 ∧ T.n + r.length ≤ 1152921504606846976 ∧ Hid (D.run b = decGo D.max D.must fu T sz out r) ∧ Hid (RDM w S p g D S' T out r A c Ao co wr)) (fun vb _ _ _ => lenOf vb)
    case atStart => exact ⟨b.length, D.t, 0, [], b, A0, c0, none, 0, S, rfl, rfl, rfl, Nat.le_refl _, by omega, by simp, hl, hn, hrun, HM⟩
    case round =>
      obtain ⟨fu, T, sz, out, r, A, c, Ao, co, S', rfl, rfl, rfl, hfu, hsz, hout, hrl, hTn, hE, hM⟩ := hrel
      clear HM hrun hd3
      obtain ⟨hy0, hy1, hy2, hy3, hy4, hy5⟩ := hM.out.cells
      cases r with
      | nil =>
        as_aux_lemma =>
          have hE2 : Hid (D.run b = if D.must = true ∧ sz = 0 then none else some (out, T)) := by show _ = _; rw [hE.out]; cases fu <;> rfl
          clear hE
          rw [show ([] : Bytes).length = 0 from rfl]
          have hok : ∀ wz, RDM w S p g D S' T out [] A c Ao co wz → ¬ (D.must = true ∧ sz = 0) → RDRes w S p g D (D.run b) (.returned (.tuple #[.slice Ao out.length co, .int .i64 0])) (wz.setCell ⟨p, 2, none⟩ (.bool false)) := fun wz hz hq => rdm_done hz (by rw [hE2.out, if_neg hq]) hbad2.out
          have hno : ∀ wz, RDM w S p g D S' T out [] A c Ao co wz → (D.must = true ∧ sz = 0) → ∀ w2, RDeAt S' w2 p g ⟨T, D.max, D.must, true⟩ → Frm (fun k => k = p) wz w2 → RDRes w S p g D (D.run b) (.returned (.tuple #[.slice none 0 0, .int .i64 26])) w2 := fun wz hz hq w2 h2 f2 => rdm_bad hz (by rw [hE2.out, if_pos hq]) h2 f2
          generalize hmu : D.must = mu at *
          have HMU := Lib.hid hmu
          have HOK := Lib.hid hok
          have HNO := Lib.hid hno
          clear hmu hok hno
          cases mu with
          | false =>
            go_wp2
            go_ret2
            exact HOK.out _ hM.out (by simp)
          | true =>
            by_cases hs0 : sz = 0
            · subst hs0
              rw [show ((0 : Nat) : Int) = 0 from rfl]
              go_wp2_with (fail)
              refine (rbad_any _ hM.out.de).mono ?_
              rintro e w2 ⟨rfl, h2, f2⟩
              have H2 := Lib.hid h2
              have F2 := Lib.hid f2
              clear h2 f2
              clear hy0 hy1 hy2 hy3 hy4 hy5
              go_wp2
              go_ret2
              exact HNO.out _ hM.out (by simp) _ (by have h9 := H2.out; rw [HMU.out] at h9; exact h9) F2.out
            · have hs1 : ((sz : Int) == 0) = false := by rw [beq_eq_false_iff_ne]; omega
              go_wp2
              go_ret2
              exact HOK.out _ hM.out (by simp [hs0])
      | cons x t =>
        obtain ⟨fu, rfl⟩ : ∃ f, fu = f + 1 := ⟨fu - 1, by simp at hfu; omega⟩
        obtain ⟨gb, off, rfl, hx0⟩ := hM.out.head rfl
        have hgb := World.block_lt_of_cell? _ _ hx0
        have hxb : x.toNat < 256 := x.toNat_lt
        have h224 := and_224 x.toNat hxb
        have h128 := and_128n x.toNat hxb
        have h64 := and_64n x.toNat hxb
        have hE2 : Hid (D.run b = if x.toNat / 32 = 1 then
            (match rdp (x :: t) 5 with
            | (n, k, e) => if e ≠ 0 ∨ D.max < n ∨ out ≠ [] ∨ 2 ≤ sz then none else decGo D.max D.must fu (T.resize n) (sz + 1) out ((x :: t).drop k))
          else if (D.must = true ∧ sz = 0) ∨ 64 ≤ out.length then none
          else match lineD T (x :: t) with
            | none => none
            | some (y, add, b) => decGo D.max D.must fu (if add then T.add y else T) sz (out ++ [y]) b) := by show _ = _; rw [hE.out]; rfl
        have hrp := fun w' k (hw : Rd w' (some ⟨gb, off, none⟩) (bvs (x :: t))) k0 k1 => rrdp_any (x :: t) (some ⟨gb, off, none⟩) c k w' hw (by omega) k0 k1
        have hhd : Hid ((x :: t).headD 0 = x) := rfl
        have hln : (x :: t).length ≠ 0 := by simp
        clear hE
        generalize hrr : x :: t = r at *
        have HRR := Lib.hid hrr
        have HRP := Lib.hid hrp
        clear hrr hrp
        have hlr : ((r.length : Int) == 0) = false := by rw [beq_eq_false_iff_ne]; omega
        have hlr2 : (0 : Int) < (r.length : Int) := by omega
        by_cases h1 : x.toNat / 32 = 1
        · rw [decide_eq_true h1] at h224
          have hrg := rdp_range r 5 (by decide)
          have hrp := HRP.out
          have hE3 : Hid (D.run b = match rdp r 5 with
            | (n, k, e) => if e ≠ 0 ∨ D.max < n ∨ out ≠ [] ∨ 2 ≤ sz then none else decGo D.max D.must fu (T.resize n) (sz + 1) out (r.drop k)) := by show _ = _; rw [hE2.out, if_pos h1]
          have hrp5 := fun w' hw => hrp w' 5 hw (by omega) (by omega)
          unfold Ret3 at hrp5
          generalize rdp r 5 = q at *
          obtain ⟨n, k, e⟩ := q
          simp only at hrg hrp5
          have hE4 : Hid (D.run b = if e ≠ 0 ∨ D.max < n ∨ out ≠ [] ∨ 2 ≤ sz then none else decGo D.max D.must fu (T.resize n) (sz + 1) out (r.drop k)) := hE3.out
          have HRP5 := Lib.hid hrp5
          clear hrp5
          clear hE2 hE3 HRP hrp h128 h64
          have hwm : IntKind.u64.wrap (D.max : Int) = (D.max : Int) := IntWalk.u64_in _ (by omega)
          go_wp2_with (fail)
          refine (HRP5.out _ hM.out.rd).mono ?_
          rintro e' w2 ⟨rfl, nn, hw2⟩
          have hM2 := Lib.hid (hM.out.fresh (w' := w2) (by rw [hw2]; exact (Frm.refl _ _).drewN nn))
          clear hw2 hy0 hy1 hy2 hy3 hy4 hy5 hx0 hgb hM
          obtain ⟨hy0, hy1, hy2, hy3, hy4, hy5⟩ := hM2.out.cells
          go_upto_region 9 with (fail)
          go_cut [66] from 32 to 215 (fun v66 w5 => v66 = .bool (decide (e ≠ 0 ∨ D.max < n ∨ out ≠ [] ∨ 2 ≤ sz)) ∧ w2 = w5)
          case first =>
            as_aux_lemma =>
              by_cases he : e = 0
              · subst he
                rw [show ((0 : Nat) : Int) = 0 from rfl]
                by_cases hnm : D.max < n
                · go_wp2
                  go_meet
                  exact ⟨by (simp [hnm] <;> omega), rfl⟩
                · by_cases ho : out = []
                  · subst ho
                    by_cases hs2 : 2 ≤ sz
                    · go_wp2
                      go_meet
                      exact ⟨by (simp [hs2] <;> omega), rfl⟩
                    · go_wp2
                      go_meet
                      exact ⟨by (simp [hs2] <;> omega), rfl⟩
                  · have hol : 0 < out.length := List.length_pos_iff.2 ho
                    go_wp2
                    go_meet
                    exact ⟨by (simp [ho] <;> omega), rfl⟩
              · have he1 : ((e : Int) == 0) = false := by rw [beq_eq_false_iff_ne]; omega
                go_wp2
                go_meet
                exact ⟨by (simp [he] <;> omega), rfl⟩
          case rest =>
            as_aux_lemma =>
              obtain ⟨rfl, rfl⟩ := hcut
              by_cases hq : e ≠ 0 ∨ D.max < n ∨ out ≠ [] ∨ 2 ≤ sz
              · have hE5 : Hid (D.run b = none) := by show _ = _; rw [hE4.out, if_pos hq]
                rw [decide_eq_true hq]
                clear hq hE4
                go_wp2_with (fail)
                refine (rbad_any _ hM2.out.de).mono ?_
                rintro e w3 ⟨rfl, h2, f2⟩
                have H2 := Lib.hid h2
                have F2 := Lib.hid f2
                clear h2 f2
                clear hy0 hy1 hy2 hy3 hy4 hy5
                go_wp2
                go_ret2
                exact rdm_bad hM2.out hE5.out H2.out F2.out
              · have hE5 : Hid (D.run b = decGo D.max D.must fu (T.resize n) (sz + 1) out (r.drop k)) := by show _ = _; rw [hE4.out, if_neg hq]
                have hq2 : e = 0 ∧ n ≤ D.max ∧ out = [] ∧ sz < 2 := by
                  refine ⟨?_, ?_, ?_, ?_⟩
                  · by_cases he : e = 0
                    · exact he
                    · exact absurd (.inl he) hq
                  · by_cases he : D.max < n
                    · exact absurd (.inr (.inl he)) hq
                    · omega
                  · by_cases he : out = []
                    · exact he
                    · exact absurd (.inr (.inr (.inl he))) hq
                  · by_cases he : 2 ≤ sz
                    · exact absurd (.inr (.inr (.inr he))) hq
                    · omega
                obtain ⟨rfl, hnm, rfl, hs2⟩ := hq2
                obtain ⟨k1, k2, k3⟩ := hrg rfl
                rw [decide_eq_false hq]
                clear hq hE4 hrg
                go_wp2_with (fail)
                refine (rtresize_any n _ hM2.out.de.tab (by omega)).mono ?_
                rintro e w3 ⟨⟨m, rfl⟩, hT3, hF3⟩
                have hM3 := hM2.out.resize n (by omega) hT3 hF3
                obtain ⟨A2, hA2, hM4⟩ := hM3.cut k
                have hFr : ∀ (o : Oper) (a : Act) (w' : World) (x lo : Operand) (u : Int), o.op = .slice 22 x (some lo) none none → a.eval x = .slice (some ⟨gb, off, none⟩) r.length c → a.eval lo = .int .i64 u → u = (k : Int) →
                    (execOp a.eval o).run Try.prog w' = .ok (.value (.slice A2 (r.length - k) (c - k))) w' := fun o a w' x lo u h1 h2 h3 h4 => by
                  have := run_from (w := w') h1 h2 h3 h4 k2
                  rw [hA2] at this
                  exact this
                have hrn : (T.resize n).n = T.n := rfl
                have hdl : (r.drop k).length = r.length - k := List.length_drop
                have HT3 := Lib.hid hT3
                have HF3 := Lib.hid hF3
                have HM3 := Lib.hid hM3
                have HM4 := Lib.hid hM4
                have HA2 := Lib.hid hA2
                have HFR := Lib.hid hFr
                have HDL := Lib.hid hdl
                clear hT3 hF3 hM3 hM4 hA2 hFr hdl
                clear hy0 hy1 hy2 hy3 hy4 hy5 hM2
                go_wp2_with (refine wpList_val rfl (.slice A2 (r.length - k) (c - k)) (HFR.out _ _ _ _ _ _ rfl rfl rfl rfl) ?_)
                go_roundw
                case rel =>
                  refine ⟨fu, T.resize n, sz + 1, [], r.drop k, A2, c - k, Ao, co, S', ?_, rfl, by go_num, ?_, by omega, by simp, ?_, ?_, hE5, HM4⟩
                  · rw [HDL.out]
                  · rw [HDL.out]; omega
                  · rw [HDL.out]; omega
                  · rw [HDL.out, hrn]; omega
                case measure => simp only [lenOf]; omega
        · rw [decide_eq_false h1] at h224
          have hE3 : Hid (D.run b = if (D.must = true ∧ sz = 0) ∨ 64 ≤ out.length then none
            else match lineD T r with
              | none => none
              | some (y, add, b) => decGo D.max D.must fu (if add then T.add y else T) sz (out ++ [y]) b) := by show _ = _; rw [hE2.out, if_neg h1]
          clear hE2
          by_cases hq : D.must = true ∧ sz = 0
          · as_aux_lemma =>
              obtain ⟨hq1, rfl⟩ := hq
              have hE5 : Hid (D.run b = none) := by show _ = _; rw [hE3.out, if_pos (.inl ⟨hq1, rfl⟩)]
              rw [hq1] at hy2
              rw [show ((0 : Nat) : Int) = 0 from rfl]
              go_wp2_with (fail)
              refine (rbad_any _ hM.out.de).mono ?_
              rintro e w9 ⟨rfl, h2, f2⟩
              have H2 := Lib.hid h2
              have F2 := Lib.hid f2
              clear h2 f2
              clear hy0 hy1 hy2 hy3 hy4 hy5
              go_wp2
              go_ret2
              exact rdm_bad hM.out hE5.out H2.out F2.out
          · by_cases h64o : 64 ≤ out.length
            · as_aux_lemma =>
                have hE5 : Hid (D.run b = none) := by show _ = _; rw [hE3.out, if_pos (.inr h64o)]
                go_upto_region 14 with (fail)
                go_cut [90] from 32 to 215 (fun v90 w5 => v90 = .bool false ∧ wr = w5)
                case first =>
                  generalize hmu : D.must = mu at *
                  have HMU := Lib.hid hmu
                  clear hmu
                  cases mu with
                  | false =>
                    go_wp2
                    go_meet
                    exact ⟨rfl, rfl⟩
                  | true =>
                    have hs1 : ((sz : Int) == 0) = false := by rw [beq_eq_false_iff_ne]; simp at hq; omega
                    go_wp2
                    go_meet
                    exact ⟨rfl, rfl⟩
                case rest =>
                  obtain ⟨rfl, rfl⟩ := hcut
                  go_wp2_with (fail)
                  refine (rbad_any _ hM.out.de).mono ?_
                  rintro e w9 ⟨rfl, h2, f2⟩
                  have H2 := Lib.hid h2
                  have F2 := Lib.hid f2
                  clear h2 f2
                  clear hy0 hy1 hy2 hy3 hy4 hy5
                  go_wp2
                  go_ret2
                  exact rdm_bad hM.out hE5.out H2.out F2.out
            · have hE5 : Hid (D.run b = match lineD T r with
                | none => none
                | some (y, add, b) => decGo D.max D.must fu (if add then T.add y else T) sz (out ++ [y]) b) := by show _ = _; rw [hE3.out, if_neg (by intro c; rcases c with c | c; exact hq c; exact h64o c)]
              go_upto_region 14 with (fail)
              go_cut [90] from 32 to 215 (fun v90 w5 => v90 = .bool false ∧ wr = w5)
              case first =>
                generalize hmu : D.must = mu at *
                have HMU := Lib.hid hmu
                clear hmu
                cases mu with
                | false =>
                  go_wp2
                  go_meet
                  exact ⟨rfl, rfl⟩
                | true =>
                  have hs1 : ((sz : Int) == 0) = false := by rw [beq_eq_false_iff_ne]; simp at hq; omega
                  go_wp2
                  go_meet
                  exact ⟨rfl, rfl⟩
              case rest =>
                obtain ⟨rfl, rfl⟩ := hcut
                clear hE3 hq
                by_cases h2 : 128 ≤ x.toNat
                · as_aux_lemma =>
                    rw [decide_eq_false (by omega)] at h128
                    have hLD : lineD T r = match rdp r 7 with | (i, k, e) => if e ≠ 0 then none else (entryS T i).map fun f => (f, false, r.drop k) := by unfold lineD; rw [if_pos (by rw [hhd.out]; exact h2)]
                    have hrg := rdp_range r 7 (by decide)
                    have hile := rdp_le r 7 (by decide)
                    have hrp7 := fun w' hw => HRP.out w' 7 hw (by omega) (by omega)
                    unfold Ret3 at hrp7
                    generalize rdp r 7 = q at *
                    obtain ⟨i, k, e⟩ := q
                    simp only at hrg hrp7 hLD hile
                    have hen := fun w' (hw : RDeAt S' w' p g { D with t := T }) => rentry_any i w' hw (by omega)
                    simp only at hen
                    have hev : Hid (entryV (entryS T i) = match entryS T i with | some f => (f, true) | none => (([], []), false)) := rfl
                    generalize hq9 : entryV (entryS T i) = q at *
                    obtain ⟨⟨f1, f2⟩, ok⟩ := q
                    simp only [fld, str] at hen
                    have HRP7 := Lib.hid hrp7
                    have HEN := Lib.hid hen
                    have HLD := Lib.hid hLD
                    have HQ9 := Lib.hid hq9
                    clear hrp7 hen hLD hq9
                    clear HRP h64
                    go_wp2_with (fail)
                    refine (HRP7.out _ hM.out.rd).mono ?_
                    rintro e' w2 ⟨rfl, nn, hw2⟩
                    have hM2 := Lib.hid (hM.out.fresh (w' := w2) (by rw [hw2]; exact (Frm.refl _ _).drewN nn))
                    clear hw2 hy0 hy1 hy2 hy3 hy4 hy5 hx0 hgb hM
                    go_wp2_with (fail)
                    refine (HEN.out _ hM2.out.de).mono ?_
                    rintro e' w3 ⟨rfl, hF3⟩
                    have hM3 := Lib.hid (hM2.out.fresh hF3)
                    clear hF3 hM2
                    go_upto_region 21 with (fail)
                    have hB4 := Blk.new w3 30 #[.string ⟨f1.toArray⟩, .string ⟨f2.toArray⟩]
                    have hM4 := Lib.hid (hM3.out.fresh ((Frm.refl _ _).alloc Up.new (Obj.cells #[.string ⟨f1.toArray⟩, .string ⟨f2.toArray⟩] 30)))
                    clear hM3
                    generalize w3.alloc (Obj.cells #[.string ⟨f1.toArray⟩, .string ⟨f2.toArray⟩] 30) = w4 at *
                    generalize hbx : w3.heap.size = bx at *
                    have hx1 := hB4.cell 0
                    have hx2 := hB4.cell 1
                    simp only [List.getElem?_toArray, List.getElem?_cons_zero, List.getElem?_cons_succ] at hx1 hx2
                    have hbx4 := hB4.lt
                    obtain ⟨hy0, hy1, hy2, hy3, hy4, hy5⟩ := hM4.out.cells
                    have HB4 := Lib.hid hB4
                    have HBX := Lib.hid hbx
                    clear hB4 hbx
                    by_cases he : e = 0
                    · subst he
                      rw [show ((0 : Nat) : Int) = 0 from rfl]
                      obtain ⟨k1, k2, k3⟩ := hrg rfl
                      cases ok with
                      | false =>
                        have hL2 : lineD T r = none := by
                          rw [HLD.out, if_neg (by simp)]
                          have h9 := HQ9.out
                          unfold entryV at h9
                          cases h8 : entryS T i with
                          | none => rfl
                          | some f => rw [h8] at h9; simp at h9
                        have hE6 : Hid (D.run b = none) := decGo_none hE5.out hL2
                        clear hL2
                        go_wp2_with (fail)
                        refine (rbad_any _ hM4.out.de).mono ?_
                        rintro e w9 ⟨rfl, h2, f2⟩
                        have H2 := Lib.hid h2
                        have F2 := Lib.hid f2
                        clear h2 f2
                        clear hy0 hy1 hy2 hy3 hy4 hy5
                        go_wp2
                        go_ret2
                        exact rdm_bad hM4.out hE6.out H2.out F2.out
                      | true =>
                        have hL2 : lineD T r = some ((f1, f2), false, r.drop k) := by
                          rw [HLD.out, if_neg (by simp)]
                          have h9 := HQ9.out
                          unfold entryV at h9
                          cases h8 : entryS T i with
                          | none => rw [h8] at h9; simp at h9
                          | some f => rw [h8] at h9; simp at h9; rw [h9]; rfl
                        have hE6 : Hid (D.run b = decGo D.max D.must fu T sz (out ++ [(f1, f2)]) (r.drop k)) := decGo_line hE5.out hL2
                        have hFr : ∀ (A2 : Option Addr), (if c = k then some ⟨gb, off, none⟩ else (some (⟨gb, off, none⟩ : Addr)).map (·.add k)) = A2 → ∀ (o : Oper) (a : Act) (w' : World) (x lo : Operand) (u : Int), o.op = .slice 22 x (some lo) none none → a.eval x = .slice (some ⟨gb, off, none⟩) r.length c → a.eval lo = .int .i64 u → u = (k : Int) →
                            (execOp a.eval o).run Try.prog w' = .ok (.value (.slice A2 (r.length - k) (c - k))) w' := fun A2 hA2 o a w' x lo u h1 h2 h3 h4 => by
                          have := run_from (w := w') h1 h2 h3 h4 k2
                          rw [hA2] at this
                          exact this
                        obtain ⟨A2, hA2, hM4c⟩ := hM4.out.cut k
                        have hFr2 := hFr A2 hA2
                        have hdl : (r.drop k).length = r.length - k := List.length_drop
                        have hAp := hM4c.appM
                        have HM4C := Lib.hid hM4c
                        have HA2 := Lib.hid hA2
                        have HFR2 := Lib.hid hFr2
                        have HDL := Lib.hid hdl
                        have HAP := Lib.hid hAp
                        clear hM4c hA2 hFr2 hdl hAp
                        clear hFr hL2 hrg hM4
                        go_wp2_with (first
                          | (at_builtin; refine wpList_append_lit flds rfl rfl rfl HAP.out (Mb.up Ao w4) rfl rfl (fun u hu => by simp at hu; rcases hu with rfl | rfl <;> rfl) (by omega) ?_; intro A4 c4 w5 hA4 hF4 _ _)
                          | (refine wpList_val rfl (.slice A2 (r.length - k) (c - k)) (HFR2.out _ _ _ _ _ _ rfl rfl rfl rfl) ?_))
                        have hM5 := Lib.hid (HM4C.out.append (out2 := out ++ [(f1, f2)]) (by rw [fvs_append, List.length_append]; exact hA4) (by simp) hF4)
                        go_roundw
                        case rel =>
                          refine ⟨fu, T, sz, out ++ [(f1, f2)], r.drop k, A2, c - k, A4, c4, S', ?_, ?_, rfl, ?_, by omega, ?_, ?_, ?_, hE6, hM5⟩
                          · rw [HDL.out]
                          · rw [List.length_append]; rfl
                          · rw [HDL.out]; omega
                          · rw [List.length_append]; simp; omega
                          · rw [HDL.out]; omega
                          · rw [HDL.out]; omega
                        case measure => simp only [lenOf]; omega
                    · have he1 : ((e : Int) == 0) = false := by rw [beq_eq_false_iff_ne]; omega
                      have hE6 : Hid (D.run b = none) := decGo_none hE5.out (by rw [HLD.out, if_pos he])
                      go_wp2_with (fail)
                      refine (rbad_any _ hM4.out.de).mono ?_
                      rintro e w9 ⟨rfl, h2, f2⟩
                      have H2 := Lib.hid h2
                      have F2 := Lib.hid f2
                      clear h2 f2
                      clear hy0 hy1 hy2 hy3 hy4 hy5
                      go_wp2
                      go_ret2
                      exact rdm_bad hM4.out hE6.out H2.out F2.out
                · as_aux_lemma =>
                    obtain ⟨kk, add, hkk, hk8, h64v, hLD⟩ : ∃ (kk : Nat) (add : Bool), ((x.toNat / 64 % 2 = 0 ∧ kk = 4 ∧ add = false) ∨ (¬ x.toNat / 64 % 2 = 0 ∧ kk = 6 ∧ add = true)) ∧ kk ≤ 7 ∧ 1 ≤ kk ∧ lineD T r = (litD T kk r).map fun x => (x.1, add, x.2) := by
                      by_cases h3 : 64 ≤ x.toNat
                      · exact ⟨6, true, .inr ⟨by omega, rfl, rfl⟩, by omega, by omega, by unfold lineD; rw [hhd.out, if_neg h2, if_pos h3]⟩
                      · exact ⟨4, false, .inl ⟨by omega, rfl, rfl⟩, by omega, by omega, by unfold lineD; rw [hhd.out, if_neg h2, if_neg h3]⟩
                    rw [decide_eq_true (show x.toNat < 128 by omega)] at h128
                    have HLD := Lib.hid hLD
                    clear hLD
                    go_upto_if 136 with (fail)
                    go_cut [17] from 32 to 215 (fun v17 w5 => v17 = .int .i64 (kk : Int) ∧ wr = w5)
                    case first =>
                      rcases hkk with ⟨h9, rfl, rfl⟩ | ⟨h9, rfl, rfl⟩
                      · rw [decide_eq_true h9] at h64
                        go_wp2
                        go_meet
                        exact ⟨rfl, rfl⟩
                      · rw [decide_eq_false h9] at h64
                        go_wp2
                        go_meet
                        exact ⟨rfl, rfl⟩
                    case rest =>
                      obtain ⟨rfl, rfl⟩ := hcut
                      have hk6 : ((kk : Int) == 6) = add := by rcases hkk with ⟨h9, rfl, rfl⟩ | ⟨h9, rfl, rfl⟩ <;> rfl
                      clear hkk h64 h128
                      have h256 : 2 ^ kk ≤ 256 := Nat.le_trans (Nat.pow_le_pow_right (by decide) hk8) (by decide)
                      have hLT : litD T kk r = match rdp r kk with
                        | (i, at_, e) => if e ≠ 0 then none else
                          match nameD T i (r.drop at_) with
                          | none => none
                          | some (n, r) => match strD r 7 with
                            | (s, at_, e) => if e = 0 then some ((n, s), r.drop at_) else none := rfl
                      have hrg := rdp_range r kk h256
                      have hile := rdp_le r kk h256
                      have hrp7 := fun w' hw => HRP.out w' kk hw (by omega) (by omega)
                      unfold Ret3 at hrp7
                      generalize rdp r kk = q at *
                      obtain ⟨i, k, e⟩ := q
                      simp only at hrg hrp7 hLT hile
                      have HRP7 := Lib.hid hrp7
                      have HLT := Lib.hid hLT
                      clear hrp7 hLT
                      clear HRP h256
                      go_wp2_with (fail)
                      refine (HRP7.out _ hM.out.rd).mono ?_
                      rintro e' w2 ⟨rfl, nn, hw2⟩
                      have hM2 := Lib.hid (hM.out.fresh (w' := w2) (by rw [hw2]; exact (Frm.refl _ _).drewN nn))
                      clear hw2 hy0 hy1 hy2 hy3 hy4 hy5 hx0 hgb hM
                      obtain ⟨hy0, hy1, hy2, hy3, hy4, hy5⟩ := hM2.out.cells
                      by_cases he : e = 0
                      · subst he
                        rw [show ((0 : Nat) : Int) = 0 from rfl]
                        obtain ⟨k1, k2, k3⟩ := hrg rfl
                        have hL2 : Hid (litD T kk r = match nameD T i (r.drop k) with
                          | none => none
                          | some (n, r) => match strD r 7 with
                            | (s, at_, e) => if e = 0 then some ((n, s), r.drop at_) else none) := by show _ = _; rw [HLT.out, if_neg (by simp)]
                        obtain ⟨A2, hA2, hM3⟩ := hM2.out.cut k
                        have hFr2 : ∀ (o : Oper) (a : Act) (w' : World) (x lo : Operand) (u : Int), o.op = .slice 22 x (some lo) none none → a.eval x = .slice (some ⟨gb, off, none⟩) r.length c → a.eval lo = .int .i64 u → u = (k : Int) →
                            (execOp a.eval o).run Try.prog w' = .ok (.value (.slice A2 (r.length - k) (c - k))) w' := fun o a w' x lo u h1 h2 h3 h4 => by
                          have := run_from (w := w') h1 h2 h3 h4 k2
                          rw [hA2] at this
                          exact this
                        have hdl : (r.drop k).length = r.length - k := List.length_drop
                        have hrl2 : (r.drop k).length < r.length := by omega
                        have HM3 := Lib.hid hM3
                        have HFR2 := Lib.hid hFr2
                        clear hM3 hFr2
                        clear HLT hrg hA2 hM2
                        generalize hr2 : r.drop k = r2 at *
                        rw [← hdl] at HFR2
                        generalize hc2 : c - k = c2 at *
                        have HR2 := Lib.hid hr2
                        have HDL := Lib.hid hdl
                        have HC2 := Lib.hid hc2
                        clear hr2 hdl hc2
                        go_upto_region 33 with (refine wpList_val rfl (.slice A2 r2.length c2) (HFR2.out _ _ _ _ _ _ rfl rfl rfl rfl) ?_)
                        have hB4 := Blk.new w2 30 #[.string ⟨#[]⟩, .string ⟨#[]⟩]
                        have hBC := HM3.out.boxc
                        have hM4 := Lib.hid (HM3.out.fresh ((Frm.refl _ _).alloc Up.new (Obj.cells #[.string ⟨#[]⟩, .string ⟨#[]⟩] 30)))
                        generalize w2.alloc (Obj.cells #[.string ⟨#[]⟩, .string ⟨#[]⟩] 30) = w4 at *
                        generalize hbx : w2.heap.size = bx at *
                        clear hy0 hy1 hy2 hy3 hy4 hy5 HM3
                        obtain ⟨hy0, hy1, hy2, hy3, hy4, hy5⟩ := hM4.out.cells
                        have HB4 := Lib.hid hB4
                        have HBX := Lib.hid hbx
                        have HBC := Lib.hid hBC
                        clear hB4 hbx hBC
                        have hrd2 := hM4.out.rc
                        go_upto_if 154 with (fail)
                        go_cut [1] from 32 to 215 (fun v1 w6 => ∃ (nm r3 : Bytes) (A3 : Option Addr) (c3 : Nat), v1 = .slice A3 r3.length c3 ∧ Hid (nameD T i r2 = some (nm, r3)) ∧ r3.length ≤ r2.length ∧ nm.length ≤ 4096 ∧
                          Hid (RDM w S p g D S' T out r3 A3 c3 Ao co w6) ∧ Hid (Blk w6 bx 30 #[.string ⟨nm.toArray⟩, .string ⟨#[]⟩]))
                        case first =>
                          by_cases hi0 : i = 0
                          · as_aux_lemma =>
                              subst hi0
                              rw [show ((0 : Nat) : Int) = 0 from rfl]
                              have hN : nameD T 0 r2 = match strD r2 7 with | (s, k, e) => if e = 0 then some (s, r2.drop k) else none := rfl
                              have hsr := strD_range r2 7 (by decide)
                              have hsl := strD_le r2 7
                              have hsb := fun w' hw => strbits_any r2 A2 c2 w' hw (by omega) hrd2
                              unfold RetS at hsb
                              generalize strD r2 7 = q at *
                              obtain ⟨s, k5, e5⟩ := q
                              simp only [str] at hN hsr hsl hsb
                              have HSB := Lib.hid hsb
                              clear hsb
                              go_wp2_with (fail)
                              refine (HSB.out _ hM4.out.rd).mono ?_
                              rintro e' w5 ⟨rfl, hF5⟩
                              have hM5 := hM4.out.fresh hF5
                              have hB5 := HB4.out.fresh hF5
                              clear hy0 hy1 hy2 hy3 hy4 hy5
                              obtain ⟨hy0, hy1, hy2, hy3, hy4, hy5⟩ := hM5.cells
                              have hbx5 := hB5.lt
                              have hz0 := hB5.frozen 0
                              have hx1 := hB5.cell 0
                              simp only [List.getElem?_toArray, List.getElem?_cons_zero] at hx1
                              have HB5 := Lib.hid hB5
                              have HF5 := Lib.hid hF5
                              clear hB5 hF5
                              by_cases he5 : e5 = 0
                              · subst he5
                                rw [show ((0 : Nat) : Int) = 0 from rfl]
                                obtain ⟨k6, k7⟩ := hsr rfl
                                have hN2 : Hid (nameD T 0 r2 = some (s, r2.drop k5)) := by show _ = _; rw [hN]; rfl
                                have hFb : Frm (fun k => k = bx) w5 (w5.setCell ⟨bx, 0, none⟩ (.string ⟨s.toArray⟩)) := (Frm.refl (fun k => k = bx) w5).setCell (p := ⟨bx, 0, none⟩) rfl _
                                have hM6 := hM5.box HBC.out hFb
                                have hB6 := HB5.out.set_ 0 (.string ⟨s.toArray⟩)
                                obtain ⟨A3, hA3, hM7⟩ := hM6.cut k5
                                have hFr3 : ∀ (o : Oper) (a : Act) (w' : World) (x lo : Operand) (u : Int), o.op = .slice 22 x (some lo) none none → a.eval x = .slice A2 r2.length c2 → a.eval lo = .int .i64 u → u = (k5 : Int) →
                                    (execOp a.eval o).run Try.prog w' = .ok (.value (.slice A3 (r2.length - k5) (c2 - k5))) w' := fun o a w' x lo u h1 h2 h3 h4 => by
                                  have := run_from (w := w') h1 h2 h3 h4 k7
                                  rw [hA3] at this
                                  exact this
                                have hdl3 : (r2.drop k5).length = r2.length - k5 := List.length_drop
                                have HM5 := Lib.hid hM5
                                have HFB := Lib.hid hFb
                                have HM6 := Lib.hid hM6
                                have HB6 := Lib.hid hB6
                                have HM7 := Lib.hid hM7
                                have HFR3 := Lib.hid hFr3
                                have HDL3 := Lib.hid hdl3
                                have HA3 := Lib.hid hA3
                                clear hM5 hFb hM6 hB6 hM7 hFr3 hdl3 hA3
                                clear hN hsr HSB
                                go_wp2_with (refine wpList_val rfl (.slice A3 (r2.length - k5) (c2 - k5)) (HFR3.out _ _ _ _ _ _ rfl rfl rfl rfl) ?_)
                                go_meet
                                exact ⟨s, r2.drop k5, A3, c2 - k5, by rw [HDL3.out], hN2, by rw [HDL3.out]; omega, hsl, HM7, by show Blk _ _ _ _; have := HB6.out; simpa using this⟩
                              · have he6 : ((e5 : Int) == 0) = false := by rw [beq_eq_false_iff_ne]; omega
                                have hE6 : Hid (D.run b = none) := decGo_none hE5.out (by rw [HLD.out, hL2.out, hN, if_neg he5]; rfl)
                                have HM5 := Lib.hid hM5
                                clear hM5
                                clear hN
                                go_wp2_with (fail)
                                refine (rbad_any _ HM5.out.de).mono ?_
                                rintro e w9 ⟨rfl, h2, f2⟩
                                have H2 := Lib.hid h2
                                have F2 := Lib.hid f2
                                clear h2 f2
                                clear hy0 hy1 hy2 hy3 hy4 hy5
                                go_wp2
                                go_ret2
                                exact rdm_bad HM5.out hE6.out H2.out F2.out
                          · as_aux_lemma =>
                              have hi1 : (0 : Int) < (i : Int) := by omega
                              have hN : nameD T i r2 = (entryS T i).map fun g => (g.1, r2) := by unfold nameD; rw [if_neg hi0]
                              have hen := fun w' (hw : RDeAt S' w' p g { D with t := T }) => rentry_any i w' hw (by omega)
                              have hsm : ∀ f, entryS T i = some f → fsize f ≤ 4096 := fun f hf => entry_small hM4.out.de.ok hM4.out.de.cap hf
                              simp only at hen
                              generalize hq9 : entryV (entryS T i) = q at *
                              obtain ⟨⟨f1, f2⟩, ok⟩ := q
                              simp only [fld, str] at hen
                              have HEN := Lib.hid hen
                              have HQ9 := Lib.hid hq9
                              have HN := Lib.hid hN
                              have HSM := Lib.hid hsm
                              clear hen hq9 hN hsm
                              go_wp2_with (fail)
                              refine (HEN.out _ hM4.out.de).mono ?_
                              rintro e' w5 ⟨rfl, hF5⟩
                              have hM5 := hM4.out.fresh hF5
                              have hB5 := HB4.out.fresh hF5
                              clear hF5 hy0 hy1 hy2 hy3 hy4 hy5
                              have hb5 := hB5.lt
                              go_upto_region 35 with (fail)
                              have hBB := Blk.new w5 30 #[.string ⟨f1.toArray⟩, .string ⟨f2.toArray⟩]
                              have hF6 : Frm (New w5) w5 (w5.alloc (Obj.cells #[.string ⟨f1.toArray⟩, .string ⟨f2.toArray⟩] 30)) := (Frm.refl _ _).alloc Up.new _
                              have hM6 := hM5.fresh hF6
                              have hB6 := hB5.fresh hF6
                              generalize w5.alloc (Obj.cells #[.string ⟨f1.toArray⟩, .string ⟨f2.toArray⟩] 30) = w6 at *
                              generalize hby : w5.heap.size = bz at *
                              have hne : ¬ bz = bx := by omega
                              have hne2 : ¬ bx = bz := by omega
                              obtain ⟨hy0, hy1, hy2, hy3, hy4, hy5⟩ := hM6.cells
                              have hbz := hBB.lt
                              have hbx6 := hB6.lt
                              have hz0 := hB6.frozen 0
                              have hx1 := hBB.cell 0
                              simp only [List.getElem?_toArray, List.getElem?_cons_zero] at hx1
                              have hx2 := hB6.cell 0
                              simp only [List.getElem?_toArray, List.getElem?_cons_zero] at hx2
                              have HM5 := Lib.hid hM5
                              have HB5 := Lib.hid hB5
                              have HM6 := Lib.hid hM6
                              have HB6 := Lib.hid hB6
                              have HBB := Lib.hid hBB
                              have HF6 := Lib.hid hF6
                              clear hM5 hB5 hM6 hB6 hBB hF6
                              cases ok with
                              | false =>
                                have hE6 : Hid (D.run b = none) := decGo_none hE5.out (by
                                  rw [HLD.out, hL2.out, HN.out]
                                  have h9 := HQ9.out
                                  unfold entryV at h9
                                  cases h8 : entryS T i with
                                  | none => rfl
                                  | some f => rw [h8] at h9; simp at h9)
                                go_wp2_with (fail)
                                refine (rbad_any _ HM6.out.de).mono ?_
                                rintro e w9 ⟨rfl, h2, f2⟩
                                have H2 := Lib.hid h2
                                have F2 := Lib.hid f2
                                clear h2 f2
                                clear hy0 hy1 hy2 hy3 hy4 hy5
                                go_wp2
                                go_ret2
                                exact rdm_bad HM6.out hE6.out H2.out F2.out
                              | true =>
                                have hs9 : entryS T i = some (f1, f2) := by
                                  have h9 := HQ9.out
                                  unfold entryV at h9
                                  cases h8 : entryS T i with
                                  | none => rw [h8] at h9; simp at h9
                                  | some f => rw [h8] at h9; simp at h9; rw [h9]
                                have hN2 : Hid (nameD T i r2 = some (f1, r2)) := by show _ = _; rw [HN.out, hs9]; rfl
                                have hf1 := HSM.out _ hs9
                                unfold fsize at hf1
                                simp only at hf1
                                have hFb : Frm (fun k => k = bx) w6 (w6.setCell ⟨bx, 0, none⟩ (.string ⟨f1.toArray⟩)) := (Frm.refl (fun k => k = bx) w6).setCell (p := ⟨bx, 0, none⟩) rfl _
                                have hM7 := HM6.out.box HBC.out hFb
                                have hB7 := HB6.out.set_ 0 (.string ⟨f1.toArray⟩)
                                have HS9 := Lib.hid hs9
                                have HFB := Lib.hid hFb
                                have HM7 := Lib.hid hM7
                                have HB7 := Lib.hid hB7
                                clear hs9 hFb hM7 hB7
                                go_wp2
                                go_meet
                                exact ⟨f1, r2, A2, c2, rfl, hN2, Nat.le_refl _, by omega, HM7, by show Blk _ _ _ _; have := HB7.out; simpa using this⟩
                        case rest =>
                          obtain ⟨nm, r3, A3, c3, rfl, hN2, hr3, hnm, hM6, hB6⟩ := hcut
                          rename World => w6
                          as_aux_lemma =>
                            have hL3 : Hid (litD T kk r = match strD r3 7 with | (s, at_, e) => if e = 0 then some ((nm, s), r3.drop at_) else none) := by show _ = _; rw [hL2.out, hN2.out]
                            have hrc3 := hM6.out.rc
                            have hsr := strD_range r3 7 (by decide)
                            have hsl := strD_le r3 7
                            have hsb := fun w' hw => strbits_any r3 A3 c3 w' hw (by omega) hrc3
                            unfold RetS at hsb
                            generalize strD r3 7 = q at *
                            obtain ⟨s, k5, e5⟩ := q
                            simp only [str] at hsr hsl hsb
                            have hL4 : Hid (litD T kk r = if e5 = 0 then some ((nm, s), r3.drop k5) else none) := hL3.out
                            have HSB := Lib.hid hsb
                            clear hsb
                            clear hL2 hN2 hL3 hM4 HB4 hy0 hy1 hy2 hy3 hy4 hy5
                            obtain ⟨hy0, hy1, hy2, hy3, hy4, hy5⟩ := hM6.out.cells
                            go_wp2_with (fail)
                            refine (HSB.out _ hM6.out.rd).mono ?_
                            rintro e' w7 ⟨rfl, hF7⟩
                            have hM7 := hM6.out.fresh hF7
                            have hB7 := hB6.out.fresh hF7
                            clear hy0 hy1 hy2 hy3 hy4 hy5 hM6 hB6 hF7 HSB
                            obtain ⟨hy0, hy1, hy2, hy3, hy4, hy5⟩ := hM7.cells
                            have hbx7 := hB7.lt
                            have hz1 := hB7.frozen 1
                            have hx1 := hB7.cell 1
                            simp only [List.getElem?_toArray, List.getElem?_cons_zero, List.getElem?_cons_succ] at hx1
                            have HB7 := Lib.hid hB7
                            have HM7 := Lib.hid hM7
                            clear hB7 hM7
                            by_cases he5 : e5 = 0
                            · subst he5
                              rw [show ((0 : Nat) : Int) = 0 from rfl]
                              obtain ⟨k6, k7⟩ := hsr rfl
                              have hLl : lineD T r = some ((nm, s), add, r3.drop k5) := by rw [HLD.out, hL4.out]; rfl
                              have hE6 : Hid (D.run b = decGo D.max D.must fu (if add then T.add (nm, s) else T) sz (out ++ [(nm, s)]) (r3.drop k5)) := decGo_line hE5.out hLl
                              have hFb : Frm (fun k => k = bx) w7 (w7.setCell ⟨bx, 1, none⟩ (.string ⟨s.toArray⟩)) := (Frm.refl (fun k => k = bx) w7).setCell (p := ⟨bx, 1, none⟩) rfl _
                              have hM8 := HM7.out.box HBC.out hFb
                              have hB8 : Blk (w7.setCell ⟨bx, 1, none⟩ (.string ⟨s.toArray⟩)) bx 30 #[.string ⟨nm.toArray⟩, .string ⟨s.toArray⟩] := by
                                have := HB7.out.set_ 1 (.string ⟨s.toArray⟩)
                                simpa using this
                              obtain ⟨A4, hA4, hM9⟩ := hM8.cut k5
                              have hFr4 : ∀ (o : Oper) (a : Act) (w' : World) (x lo : Operand) (u : Int), o.op = .slice 22 x (some lo) none none → a.eval x = .slice A3 r3.length c3 → a.eval lo = .int .i64 u → u = (k5 : Int) →
                                  (execOp a.eval o).run Try.prog w' = .ok (.value (.slice A4 (r3.length - k5) (c3 - k5))) w' := fun o a w' x lo u h1 h2 h3 h4 => by
                                have := run_from (w := w') h1 h2 h3 h4 k7
                                rw [hA4] at this
                                exact this
                              have hdl4 : (r3.drop k5).length = r3.length - k5 := List.length_drop
                              have HLL := Lib.hid hLl
                              have HFB := Lib.hid hFb
                              have HM8 := Lib.hid hM8
                              have HB8 := Lib.hid hB8
                              have HM9 := Lib.hid hM9
                              have HFR4 := Lib.hid hFr4
                              have HDL4 := Lib.hid hdl4
                              have HA4 := Lib.hid hA4
                              clear hLl hFb hM8 hB8 hM9 hFr4 hdl4 hA4
                              clear hL4 hsr hE5
                              go_upto_region 47 with (fail)
                              generalize w7.setCell ⟨bx, 1, none⟩ (.string ⟨s.toArray⟩) = w8 at *
                              clear hy0 hy1 hy2 hy3 hy4 hy5 hbx7 hz1 hx1
                              obtain ⟨hy0, hy1, hy2, hy3, hy4, hy5⟩ := HM9.out.cells
                              have hAp := HM9.out.appM
                              have hb8 := HB8.out
                              have hbx8 := hb8.lt
                              have hx0 := hb8.cell 0
                              have hx1 := hb8.cell 1
                              simp only [List.getElem?_toArray, List.getElem?_cons_zero, List.getElem?_cons_succ] at hx0 hx1
                              have HB8 := Lib.hid hb8
                              have HAP := Lib.hid hAp
                              clear hb8 hAp
                              clear HM7 HB7 HFB HM8
                              have hTa := Tb.add_n T (nm, s)
                              cases add with
                              | false =>
                                go_wp2_with (first
                                  | (at_builtin; refine wpList_append_lit flds rfl rfl rfl HAP.out (Mb.up Ao w8) rfl rfl (fun u hu => by simp at hu; rcases hu with rfl | rfl <;> rfl) (by omega) ?_; intro A10 c10 w9 hA10 hF10 _ _)
                                  | (refine wpList_val rfl (.slice A4 (r3.length - k5) (c3 - k5)) (HFR4.out _ _ _ _ _ _ rfl rfl rfl rfl) ?_))
                                have hM10 := Lib.hid (HM9.out.append (out2 := out ++ [(nm, s)]) (by rw [fvs_append, List.length_append]; exact hA10) (by simp) hF10)
                                go_roundw
                                case rel =>
                                  refine ⟨fu, T, sz, out ++ [(nm, s)], r3.drop k5, A4, c3 - k5, A10, c10, S', ?_, ?_, rfl, ?_, by omega, ?_, ?_, ?_, hE6, hM10⟩
                                  · rw [HDL4.out]
                                  · rw [List.length_append]; rfl
                                  · rw [HDL4.out]; omega
                                  · rw [List.length_append]; simp; omega
                                  · rw [HDL4.out]; omega
                                  · rw [HDL4.out]; omega
                                case measure => simp only [lenOf]; omega
                              | true =>
                                have hnx : T.n < 1152921504606846976 := by omega
                                have hfx : fsize (nm, s) ≤ 70368744177664 := by unfold fsize; simp only; omega
                                have hcx : T.cap ≤ 70368744177664 := by have := HM9.out.de.cap; simp only at this; omega
                                go_upto_region 50 with (first
                                  | (at_builtin; refine wpList_append_lit flds rfl rfl rfl HAP.out (Mb.up Ao w8) rfl rfl (fun u hu => by simp at hu; rcases hu with rfl | rfl <;> rfl) (by omega) ?_; intro A10 c10 w9 hA10 hF10 _ _)
                                  | (refine wpList_val rfl (.slice A4 (r3.length - k5) (c3 - k5)) (HFR4.out _ _ _ _ _ _ rfl rfl rfl rfl) ?_))
                                have hM10 := Lib.hid (HM9.out.append (out2 := out ++ [(nm, s)]) (by rw [fvs_append, List.length_append]; exact hA10) (by simp) hF10)
                                have hB9 : Blk w9 bx 30 #[.string ⟨nm.toArray⟩, .string ⟨s.toArray⟩] := HB8.out.keep hF10 (fun c => by
                                  rcases c with c | c
                                  · exact HBC.out.bo bx c rfl
                                  · omega)
                                clear hy0 hy1 hy2 hy3 hy4 hy5 hx0 hx1 hbx8 hF10 hA10
                                obtain ⟨hy0, hy1, hy2, hy3, hy4, hy5⟩ := hM10.out.cells
                                have hbx9 := hB9.lt
                                have hx0 := hB9.cell 0
                                have hx1 := hB9.cell 1
                                simp only [List.getElem?_toArray, List.getElem?_cons_zero, List.getElem?_cons_succ] at hx0 hx1
                                have HB9 := Lib.hid hB9
                                clear hB9
                                go_region_held3 (fun w' => w'.cell? ⟨p, 0, none⟩ = some (.pointer (some ⟨g, 0, none⟩)) ∧ w'.cell? ⟨bx, 0, none⟩ = some (.string ⟨nm.toArray⟩) ∧ w'.cell? ⟨bx, 1, none⟩ = some (.string ⟨s.toArray⟩))
                                  (first
                                    | exact HS11.out
                                    | exact ⟨hy0, hx0, hx1⟩)
                                  (first
                                    | (go_at_call 59
                                       refine (radd_any (T := T) (nm, s) _ ((hM10.out.fresh ((Frm.refl _ _).drew)).de.tab) hnx hfx hcx).mono ?_
                                       rintro e w10 ⟨⟨m10, rfl⟩, S2, hT10, hF11, hS10⟩
                                       have hM11 := Lib.hid ((hM10.out.fresh ((Frm.refl _ _).drew)).add (nm, s) hT10 hF11 hS10)
                                       have HS11 : Hid (w10.cell? ⟨p, 0, none⟩ = some (.pointer (some ⟨g, 0, none⟩)) ∧ w10.cell? ⟨bx, 0, none⟩ = some (.string ⟨nm.toArray⟩) ∧ w10.cell? ⟨bx, 1, none⟩ = some (.string ⟨s.toArray⟩)) := by
                                         have hbx10 := (HB9.out.fresh ((Frm.refl _ _).drew)).keep hF11 (fun c => by
                                           rcases c with c | c
                                           · exact HBC.out.bS (by rw [c]; exact hM10.out.de.tab.sg)
                                           · have := HB9.out.lt; unfold New at c; simp at c; omega)
                                         exact ⟨hM11.out.cells.1, hbx10.cell 0, hbx10.cell 1⟩
                                       clear hT10 hF11 hS10)
                                    | fail)
                                go_wp2
                                go_roundw
                                case rel =>
                                  refine ⟨fu, T.add (nm, s), sz, out ++ [(nm, s)], r3.drop k5, A4, c3 - k5, A10, c10, S2, ?_, ?_, rfl, ?_, by omega, ?_, ?_, ?_, hE6, hM11⟩
                                  · rw [HDL4.out]
                                  · rw [List.length_append]; rfl
                                  · rw [HDL4.out]; omega
                                  · rw [List.length_append]; simp; omega
                                  · rw [HDL4.out]; omega
                                  · rw [HDL4.out]; omega
                                case measure => simp only [lenOf]; omega
                            · have he6 : ((e5 : Int) == 0) = false := by rw [beq_eq_false_iff_ne]; omega
                              have hE6 : Hid (D.run b = none) := decGo_none hE5.out (by rw [HLD.out, hL4.out, if_neg he5]; rfl)
                              go_wp2_with (fail)
                              refine (rbad_any _ HM7.out.de).mono ?_
                              rintro e w9 ⟨rfl, h2, f2⟩
                              have H2 := Lib.hid h2
                              have F2 := Lib.hid f2
                              clear h2 f2
                              clear hy0 hy1 hy2 hy3 hy4 hy5
                              go_wp2
                              go_ret2
                              exact rdm_bad HM7.out hE6.out H2.out F2.out
                      · as_aux_lemma =>
                          have he1 : ((e : Int) == 0) = false := by rw [beq_eq_false_iff_ne]; omega
                          have hE6 : Hid (D.run b = none) := decGo_none hE5.out (by rw [HLD.out, HLT.out, if_pos he]; rfl)
                          go_wp2_with (fail)
                          refine (rbad_any _ hM2.out.de).mono ?_
                          rintro e w9 ⟨rfl, h2, f2⟩
                          have H2 := Lib.hid h2
                          have F2 := Lib.hid f2
                          clear h2 f2
                          clear hy0 hy1 hy2 hy3 hy4 hy5
                          go_wp2
                          go_ret2
                          exact rdm_bad hM2.out hE6.out H2.out F2.out
end Go.Proofs.Ytcebckkpablagaa.M
