/- Package huff: Decode: what it returns. Bytes fewer than 2^40. -/
import Derived.Deep.CutBlock
import Derived.Test.YtcebckkpablagaaLev
import Derived.Test.YtcebckkpablagaaUnw
namespace Go.Proofs.Ytcebckkpablagaa.M
open Go.ChangeShapes Go.WideShapes Go.ChangeAt Go.RowKit

/-- Decode's loop: k bits are read -/
structure HdAt (w : World) (b : Bytes) (g1 g2 k c n : Nat) (ones : Bool) (A : Option Addr) (cp : Nat) (l : Bytes) (wr : World) : Prop where
  opn : Open n c
  eq : ugo ((ubits b).drop k) c n ones l = unhuf b
  le : l.length ≤ 4096
  app : App (New w) wr 5 1 A l.length cp (bvs l)
  b1 : Blk wr g1 141 (vN .i64 (levL 30))
  b2 : Blk wr g2 142 (vN .i64 ord_)
  frm : Frm (New w) w wr
theorem HdAt.none_ {w wr w2 : World} {b l : Bytes} {g1 g2 k c n cp x : Nat} {ones : Bool} {A : Option Addr} (h : HdAt w b g1 g2 k c n ones A cp l wr) (hd : (ubits b).drop k = x :: (ubits b).drop (k + 1)) (hx : x ≤ 1) (hl : look (n + 1) (2 * c + x) = none) (hF : Frm (New wr) wr w2) :
    HdAt w b g1 g2 (k + 1) (2 * c + x) (n + 1) (ones && x == 1) A cp l w2 := by
  have h1 := h.eq
  rw [hd, ugo_none _ _ _ hl] at h1
  exact ⟨(h.opn.step x hx).2.2 hl, h1, h.le, h.app.fresh hF, h.b1.fresh hF, h.b2.fresh hF, h.frm.then_new Up.new hF⟩
theorem HdAt.huf {w wr : World} {b l : Bytes} {g1 g2 k c n cp x : Nat} {ones : Bool} {A : Option Addr} (h : HdAt w b g1 g2 k c n ones A cp l wr) (hd : (ubits b).drop k = x :: (ubits b).drop (k + 1)) (hl : look (n + 1) (2 * c + x) = some 256) :
    unhuf b = ([], 22) := by
  have h1 := h.eq
  rw [hd, ugo_some _ _ _ hl, if_pos rfl] at h1
  exact h1.symm
theorem HdAt.long {w wr : World} {b l : Bytes} {g1 g2 k c n cp x s : Nat} {ones : Bool} {A : Option Addr} (h : HdAt w b g1 g2 k c n ones A cp l wr) (hd : (ubits b).drop k = x :: (ubits b).drop (k + 1)) (hl : look (n + 1) (2 * c + x) = some s) (hs : s ≠ 256) (h4 : 4096 ≤ l.length) :
    unhuf b = ([], 23) := by
  have h1 := h.eq
  rw [hd, ugo_some _ _ _ hl, if_neg hs, if_pos h4] at h1
  exact h1.symm
theorem HdAt.some_ {w wr w2 : World} {b l : Bytes} {g1 g2 k c n cp cp2 x s : Nat} {ones : Bool} {A A2 : Option Addr} (h : HdAt w b g1 g2 k c n ones A cp l wr) (hd : (ubits b).drop k = x :: (ubits b).drop (k + 1)) (hl : look (n + 1) (2 * c + x) = some s) (hs : s ≠ 256) (h4 : ¬ 4096 ≤ l.length)
    (hA : App (New w) w2 5 1 A2 (l ++ [UInt8.ofNat s]).length cp2 (bvs (l ++ [UInt8.ofNat s]))) (hB1 : Blk w2 g1 141 (vN .i64 (levL 30))) (hB2 : Blk w2 g2 142 (vN .i64 ord_)) (hF : Frm (New w) wr w2) : HdAt w b g1 g2 (k + 1) 0 0 true A2 cp2 (l ++ [UInt8.ofNat s]) w2 := by
  have h1 := h.eq
  rw [hd, ugo_some _ _ _ hl, if_neg hs, if_neg h4] at h1
  exact ⟨Open.zero, h1, by simp; omega, hA, hB1, hB2, h.frm.trans hF⟩
theorem and_1_u8 (x m : Nat) (hx : x < 256) (hm : m ≤ 7) : bits .and .u8 ((x : Int) / 2 ^ m) 1 = ((x / 2 ^ m % 2 : Nat) : Int) := by
  have key : ∀ m : Fin 8, ∀ x : Fin 256, bits .and .u8 ((x.val : Int) / 2 ^ m.val) 1 = ((x.val / 2 ^ m.val % 2 : Nat) : Int) := by decide +kernel
  exact key ⟨m, by omega⟩ ⟨x, hx⟩
theorem wraps64i (n : Int) (h₀ : 0 ≤ n) (h₁ : n < 2 ^ 63) : IntKind.i64.wrap n = n := IntWalk.i64_in _ (by omega)
theorem or_bit_i64 (c x : Nat) (hc : c < 536870912) (hx : x ≤ 1) : bits .or .i64 ((c : Int) * 2) (x : Int) = ((2 * c + x : Nat) : Int) := by
  rw [show ((c : Int) * 2) = ((c * 2 : Nat) : Int) from by omega, bits_join .i64 63 (by decide) wraps64i 1 ((c * 2 : Nat) : Int) (x : Int) (by omega) (by omega) (by omega) (by omega) (by omega) (by omega)]
  omega
theorem lev_wraps (a1 c2 f1 : Nat) (ha : a1 ≤ 257) (hc : c2 < 1073741824) (hf : f1 ≤ c2) : IntKind.i64.wrap ((a1 : Int) + (c2 : Int)) = ((a1 + c2 : Nat) : Int) ∧ IntKind.i64.wrap (((a1 + c2 : Nat) : Int) - (f1 : Int)) = ((a1 + (c2 - f1) : Nat) : Int) := by
  constructor
  · rw [show ((a1 : Int) + (c2 : Int)) = ((a1 + c2 : Nat) : Int) from by omega]; exact IntWalk.i64_in _ (by omega)
  · rw [show (((a1 + c2 : Nat) : Int) - (f1 : Int)) = ((a1 + (c2 - f1) : Nat) : Int) from by omega]; exact IntWalk.i64_in _ (by omega)
theorem lev_facts (n : Nat) (hn : n ≤ 30) : (levL 30).getD (n * 3) 0 = fst_ n ∧ (levL 30).getD (n * 3 + 1) 0 = cnt_ n ∧ (levL 30).getD (n * 3 + 2) 0 = at_ n := by
  have h := levL_done ⟨n, by omega⟩
  have h2 := atL_at ⟨n, by omega⟩
  simp only at h h2
  rw [h2] at h
  exact h

set_option maxRecDepth 100000 in
set_option maxHeartbeats 2000000 in
theorem hdecode_any (b : Bytes) (A : Option Addr) (cb : Nat) (w : World) (hR : Rd w A (bvs b)) (hl : b.length ≤ 1099511627776) :
    Calls Try.prog 69 #[.slice A b.length cb] w fun e w' => e = .returned (.tuple #[str (unhuf b).1, .int .i64 ((unhuf b).2 : Nat)]) ∧ Frm (New w) w w' := by
  have t1 := trivial
  have t2 := trivial
  have t3 := trivial
  have t4 := trivial
  have hs1 : (vN .i64 (levL 30)).size = 96 := (vN_size .i64 (levL 30)).trans (levL_len ⟨30, by omega⟩)
  have hs2 : (vN .i64 ord_).size = 257 := by rw [← ordTo_ord]; exact (vN_size .i64 (ordTo 257)).trans (ordTo_len 257)
  have HR := Lib.hid hR
  have HS1 := Lib.hid hs1
  have HS2 := Lib.hid hs2
  clear hR hs1 hs2
  go_enter Try.func69, Try.ntmps69
  go_wp2_with (first
    | (go_at_call 88; refine (levels_any _).mono ?_; rintro e w1 ⟨rfl, hF1⟩)
    | (clear t1; refine wpList_new rfl rfl z141 rfl ?_; intro wa hba hFa hsa)
    | (clear t2; refine wpList_new rfl rfl z142 rfl ?_; intro wb hbb hFb hsb)
    | (clear t3; refine wpList_store_agg rfl rfl rfl rfl (hba.fresh hFb) (by rw [HS1.out]; rfl) (vN_one _ _) (by rw [HS1.out]; exact a141.size) ?_; intro wc hbc hFc hsc)
    | (clear t4; refine wpList_store_agg rfl rfl rfl rfl (hbb.keep hFc (by omega)) (by rw [HS2.out]; rfl) (vN_one _ _) (by rw [HS2.out]; exact a142.size) ?_; intro w2 hb2 hF2 hs2))
  have c1 := hF1.size
  have hb1 : Blk w2 w1.heap.size 141 (vN .i64 (levL 30)) := hbc.keep hF2 (by omega)
  have hF : Frm (New w) w w2 := ((hF1.then_new Up.new (hFa.then_new Up.new hFb)).trans (hFc.mono (fun k hk => by subst hk; exact c1))).trans (hF2.mono (fun k hk => by subst hk; show w.heap.size ≤ wa.heap.size; omega))
  have sa : wa.heap.size = w1.heap.size + 1 := hsa
  rw [sa] at hb2
  try simp only [sa]
  have H := Lib.hid (show HdAt w b w1.heap.size (w1.heap.size + 1) 0 0 0 true none 0 [] w2 from ⟨Open.zero, rfl, by simp, App.none_, hb1, hb2, hF⟩)
  generalize w1.heap.size = g1 at *
  clear hb1 hb2 hF hba hbb hbc hFa hFb hFc hF1 hF2 hsa hsb hsc hs2 c1 sa
  go_loopw [6, 7, 8, 9, 21] (fun o c n ones i wr => ∃ (k cc nn : Nat) (on : Bool) (A' : Option Addr) (cp : Nat) (l : Bytes), k ≤ 8 * b.length ∧ i = .int .i64 k ∧ c = .int .i64 cc ∧ n = .int .i64 nn ∧ ones = .bool on ∧ o = .slice A' l.length cp ∧ Hid (HdAt w b g1 (g1 + 1) k cc nn on A' cp l wr)) (fun _ _ _ _ i _ => 8 * b.length - (intOf i).toNat)
  case atStart => exact ⟨0, 0, 0, true, none, 0, [], by omega, rfl, rfl, rfl, rfl, rfl, H⟩
  case round =>
    obtain ⟨k, c, n, on, A', cp, l, hk, rfl, rfl, rfl, rfl, rfl, hU⟩ := hrel
    clear H
    have hopn := hU.out.opn.le
    have hl4 := hU.out.le
    by_cases hlt : k < 8 * b.length
    · have hk8 : k / 8 < b.length := by omega
      have hRd := HR.out.fresh hU.out.frm
      obtain ⟨gb, off, rfl, hx⟩ := hRd.at_ (k := k / 8) (by rw [bvs_length]; exact hk8)
      have hdrop := ubits_drop b k hk8
      simp only [bvs, List.getElem_map, bv] at hx
      have hb8 : (b[k / 8]).toNat < 256 := (b[k / 8]).toNat_lt
      generalize b[k / 8] = by_ at *
      obtain ⟨m7, hm7⟩ : ∃ m7 : Nat, m7 = 7 - k % 8 := ⟨_, rfl⟩
      rw [← hm7] at hdrop
      have g1' : IntKind.i64.wrap (7 - (k : Int) % 8) = (m7 : Int) := by rw [IntWalk.i64_in _ (by omega)]; omega
      have g2' : IntKind.u64.wrap (m7 : Int) = (m7 : Int) := IntWalk.u64_in _ (by omega)
      have hm7b : m7 ≤ 7 := by omega
      have hand := and_1_u8 by_.toNat m7 hb8 hm7b
      have hx1 : by_.toNat / 2 ^ m7 % 2 ≤ 1 := by omega
      generalize by_.toNat / 2 ^ m7 % 2 = x at *
      have hor := or_bit_i64 c x hopn.2 hx1
      have hstep := hU.out.opn.step x hx1
      have hNone := fun h w2 hF => hU.out.none_ (w2 := w2) hdrop hx1 h hF
      have hHuf := fun h => hU.out.huf hdrop h
      have hLong := fun s h => hU.out.long (s := s) hdrop h
      have hSome := fun s A2 cp2 w2 h => hU.out.some_ (s := s) (A2 := A2) (cp2 := cp2) (w2 := w2) hdrop h
      have hcn : 2 * c + x < 1073741824 := by omega
      generalize hc2 : 2 * c + x = c2 at *
      obtain ⟨hf1, _, hop⟩ := hstep
      have hlv := look_lev (n + 1) c2 (by omega) hf1
      obtain ⟨e1, e2, e3⟩ := lev_facts (n + 1) (by omega)
      have hl30 := levL_len ⟨30, by omega⟩
      simp only at hl30
      have hv1 : wr.cell? ⟨g1, (n + 1) * 3, none⟩ = some (.int .i64 (fst_ (n + 1) : Nat)) := by rw [hU.out.b1.cell, ← e1]; exact vN_get (by omega)
      have hv2 : wr.cell? ⟨g1, (n + 1) * 3 + 1, none⟩ = some (.int .i64 (cnt_ (n + 1) : Nat)) := by rw [hU.out.b1.cell, ← e2]; exact vN_get (by omega)
      have hv3 : wr.cell? ⟨g1, (n + 1) * 3 + 2, none⟩ = some (.int .i64 (at_ (n + 1) : Nat)) := by rw [hU.out.b1.cell, ← e3]; exact vN_get (by omega)
      have hvl := hU.out.b1.lt
      have hcl := cnt_le ⟨n + 1, by omega⟩
      have hal : at_ (n + 1) ≤ 257 := by
        have h1 : ∀ i : Fin 32, atL.getD i.val 0 ≤ 257 := by decide
        rw [← atL_at ⟨n + 1, by omega⟩]
        exact h1 ⟨n + 1, by omega⟩
      simp only at hcl
      clear e1 e2 e3 hl30 hop
      generalize fst_ (n + 1) = f1 at *
      generalize cnt_ (n + 1) = n1 at *
      generalize at_ (n + 1) = a1 at *
      have hn1b : n + 1 < 32 := by omega
      have hn1c : ((n : Int) + 1) < 32 := by omega
      have HRD := Lib.hid hRd
      have HDROP := Lib.hid hdrop
      have HM7 := Lib.hid hm7
      have HNONE := Lib.hid hNone
      have HHUF := Lib.hid hHuf
      have HLONG := Lib.hid hLong
      have HSOME := Lib.hid hSome
      have HC2 := Lib.hid hc2
      have HLV := Lib.hid hlv
      clear hRd hdrop hm7 hNone hHuf hLong hSome hc2 hlv
      go_upto_region 8 with (fail)
      go_cut [7, 8, 9] from 22 to 78 (fun v7 v8 v9 w5 => (v7 = .int .i64 (c2 : Int) ∧ v8 = .int .i64 ((n + 1 : Nat) : Int) ∧ v9 = .bool (on && x == 1)) ∧ wr = w5)
      case first =>
        have hx01 : x = 0 ∨ x = 1 := by omega
        rcases hx01 with rfl | rfl
        · go_wp2
          all_goals go_meet
          all_goals refine ⟨⟨congrArg (Value.int .i64) hor, by go_num, ?_⟩, rfl⟩
          all_goals simp [*]
        · go_wp2
          all_goals go_meet
          all_goals refine ⟨⟨congrArg (Value.int .i64) hor, by go_num, ?_⟩, rfl⟩
          all_goals simp [*]
      case rest =>
        obtain ⟨⟨rfl, rfl, rfl⟩, rfl⟩ := hcut
        generalize (on && x == 1) = on2 at *
        clear hand hor hx
        go_upto_region 10 with (fail)
        have hBx := Blk.new wr 140 #[.int .i64 f1, .int .i64 n1, .int .i64 a1]
        have hFx : Frm (New wr) wr (wr.alloc (Obj.cells #[.int .i64 f1, .int .i64 n1, .int .i64 a1] 140)) := (Frm.refl _ _).alloc Up.new _
        generalize wr.alloc (Obj.cells #[.int .i64 f1, .int .i64 n1, .int .i64 a1] 140) = w3 at *
        generalize hbx : wr.heap.size = bx at *
        have hy0 := hBx.cell 0
        have hy1 := hBx.cell 1
        have hy2 := hBx.cell 2
        simp only [List.getElem?_toArray, List.getElem?_cons_zero, List.getElem?_cons_succ] at hy0 hy1 hy2
        have hbl := hBx.lt
        have HBX := Lib.hid hbx
        have HBX := Lib.hid hBx
        clear hbx hBx
        have hwd : IntKind.i64.wrap ((c2 : Int) - (f1 : Int)) = ((c2 - f1 : Nat) : Int) := by
          rw [show ((c2 : Int) - (f1 : Int)) = ((c2 - f1 : Nat) : Int) from by omega]; exact IntWalk.i64_in _ (by omega)
        obtain ⟨hv, hv'⟩ := HLV.out
        by_cases hq : f1 + n1 ≤ c2
        · have hUn := Lib.hid (HNONE.out (hv' hq) w3 hFx)
          have hge : n1 ≤ c2 - f1 := by omega
          generalize c2 - f1 = d at *
          clear hv hv' hv1 hv2 hv3
          go_wp2
          go_roundw
          case rel => exact ⟨k + 1, c2, n + 1, on2, A', cp, l, by omega, by go_num, rfl, rfl, rfl, rfl, hUn⟩
          case measure => simp [intOf]; omega
        · obtain ⟨s, hlo, hor2, hs257⟩ := hv (by omega)
          have hb2 := hU.out.b2.fresh hFx
          have hod : a1 + (c2 - f1) < 257 := by
            have := (List.getElem?_eq_some_iff.1 hor2).1
            rw [← ordTo_ord, ordTo_len] at this
            exact this
          have hcell : w3.cell? ⟨g1 + 1, a1 + (c2 - f1), none⟩ = some (.int .i64 (s : Int)) := by
            have h9 : ord_.getD (a1 + (c2 - f1)) 0 = s := by rw [List.getD_eq_getElem?_getD, hor2]; rfl
            rw [hb2.cell, ← h9]
            exact vN_get (by rw [← ordTo_ord, ordTo_len]; exact hod)
          have hb2l := hb2.lt
          obtain ⟨hwe, hwf⟩ := lev_wraps a1 c2 f1 hal hcn hf1
          have hlt2 : c2 - f1 < n1 := Nat.sub_lt_left_of_lt_add hf1 (Nat.lt_of_not_le hq)
          generalize c2 - f1 = d at *
          generalize a1 + c2 = ac at *
          generalize a1 + d = ad at *
          have HB2 := Lib.hid hb2
          have HOR2 := Lib.hid hor2
          clear hb2 hor2
          clear hv hv' hv1 hv2 hv3 hq hf1
          by_cases h256 : s = 256
          · subst h256
            have hun : Hid (unhuf b = ([], 22)) := HHUF.out hlo
            have HLO := Lib.hid hlo
            clear hlo
            go_wp2
            go_ret2
            rw [hun.out]
            exact ⟨rfl, hU.out.frm.then_new Up.new hFx⟩
          · have h256' : ((s : Int) == 256) = false := by rw [beq_eq_false_iff_ne]; omega
            by_cases h4 : l.length = 4096
            · have hun : Hid (unhuf b = ([], 23)) := HLONG.out s hlo h256 (by omega)
              have HLO := Lib.hid hlo
              clear hlo
              have h4' : ((l.length : Int) == 4096) = true := by rw [beq_iff_eq]; omega
              go_wp2
              go_ret2
              rw [hun.out]
              exact ⟨rfl, hU.out.frm.then_new Up.new hFx⟩
            · have h4' : ((l.length : Int) == 4096) = false := by rw [beq_eq_false_iff_ne]; omega
              have hUn := Lib.hid (fun A2 cp2 w2 => HSOME.out s A2 cp2 w2 hlo h256 (by omega))
              have HLO := Lib.hid hlo
              clear hlo
              have hbs : bvs [UInt8.ofNat s] = [Value.int .u8 (s : Int)] := by simp [bvs, bv]; omega
              have hA3 := hU.out.app.fresh hFx
              have hu3 : Up (New w) w3 := Up.new.of (Nat.le_trans hU.out.frm.size hFx.size)
              have hB1 := hU.out.b1.fresh hFx
              have HBS := Lib.hid hbs
              have HA3 := Lib.hid hA3
              have HB1 := Lib.hid hB1
              have HFX := Lib.hid hFx
              clear hbs hA3 hB1 hFx
              go_wp2_with (at_builtin; refine wpList_append_lit u8s rfl rfl rfl HA3.out hu3 rfl rfl (one_cell _ rfl) (by omega) ?_; intro A4 c4 w5 hA4 hF4 _ hW4)
              go_roundw
              case rel =>
                refine ⟨k + 1, 0, 0, true, A4, c4, l ++ [UInt8.ofNat s], by omega, by go_num, rfl, rfl, rfl, by simp, hUn.out A4 c4 w5 ?_ (HB1.out.app HA3.out (by decide) hW4) (HB2.out.app HA3.out (by decide) hW4) ((HFX.out.mono (fun j hj => Nat.le_trans hU.out.frm.size hj)).trans hF4)⟩
                rw [bvs_append, List.length_append, HBS.out]
                exact hA4
              case measure => simp [intOf]; omega
    · obtain rfl : k = 8 * b.length := by omega
      have heq := hU.out.eq
      rw [List.drop_eq_nil_of_le (by rw [ubits_length]; omega), ugo_nil] at heq
      have hF := hU.out.frm
      have hcv := run_conv (c := cp) hU.out.app.rd
      simp only [str] at hcv
      have HEQ := Lib.hid heq
      have HF := Lib.hid hF
      have HU2 := Lib.hid hU
      clear heq hF hU
      by_cases hq : 8 ≤ n ∨ on = false
      · have hun : Hid (unhuf b = ([], 22)) := by show _ = _; rw [← HEQ.out, if_pos hq]
        clear HEQ
        by_cases hq8 : 8 ≤ n
        · go_wp2
          go_ret2
          rw [hun.out]
          exact ⟨rfl, HF.out⟩
        · have hof : on = false := by rcases hq with h | h; exact absurd h hq8; exact h
          subst hof
          go_wp2
          go_ret2
          rw [hun.out]
          exact ⟨rfl, HF.out⟩
      · have hun : Hid (unhuf b = (l, 0)) := by show _ = _; rw [← HEQ.out, if_neg hq]
        have hq8 : ¬ 8 ≤ n := fun h => hq (.inl h)
        have hof : on = true := by cases on; exact absurd (.inr rfl) hq; rfl
        subst hof
        clear hq HEQ
        go_wp2
        go_ret2
        rw [hun.out]
        exact ⟨rfl, HF.out⟩
end Go.Proofs.Ytcebckkpablagaa.M
