/- The reference's sign, Unhuffman: what they return. Bytes fewer than 2^40. -/
import Derived.Deep.CutBlock
import Derived.Test.YtcebckkpablagaaUnh
import Derived.Test.YtcebckkpablagaaRhuf
import Derived.Test.YtcebckkpablagaaIn
namespace Go.Proofs.Ytcebckkpablagaa.M
open Go.ChangeShapes Go.WideShapes Go.ChangeAt Go.RowKit

def sgn : Option Nat → Int
  | some s => (s : Int)
  | none => -1
theorem look_is {n c s : Nat} (hs : s < 257) (h : codes.getD s (0, 0) = (c, n)) (h0 : ∀ j, j < s → codes.getD j (0, 0) ≠ (c, n)) : look n c = some s := by
  unfold look
  rw [List.findIdx?_eq_some_iff_getElem]
  have hg := codes_get s hs
  refine ⟨by rw [codes_length]; exact hs, ?_, fun j hj => ?_⟩
  · have := List.getElem?_eq_getElem (l := codes) (i := s) (by rw [codes_length]; exact hs)
    rw [hg] at this
    have this := Option.some.inj this
    rw [← this, h]; exact decide_eq_true rfl
  · have h1 := codes_get j (by omega)
    have := List.getElem?_eq_getElem (l := codes) (i := j) (by rw [codes_length]; omega)
    rw [h1] at this
    have this := Option.some.inj this
    rw [← this, decide_eq_true_eq]
    exact h0 j hj
theorem look_not {n c : Nat} (h0 : ∀ j, j < 257 → codes.getD j (0, 0) ≠ (c, n)) : look n c = none := by
  cases h : look n c with
  | none => rfl
  | some s =>
    obtain ⟨h1, h2⟩ := look_some n c s h
    exact absurd h2 (h0 s h1)

set_option maxRecDepth 100000 in
set_option maxHeartbeats 1000000 in
theorem sign_any (g c n : Nat) (w : World) (hb : Blk w g 133 (vP .u32 .i64 codes)) :
    Calls Try.prog 89 #[.slice (some ⟨g, 0, none⟩) 257 257, .int .u32 c, .int .i64 n] w fun e w' => e = .returned (.int .i64 (sgn (look n c))) ∧ w' = w := by
  have HB := Lib.hid hb
  clear hb
  go_enter Try.func89, Try.ntmps89
  go_wp2
  go_loop [7] (fun i => ∃ k : Nat, k ≤ 257 ∧ i = .int .i64 k ∧ Hid (∀ j, j < k → codes.getD j (0, 0) ≠ (c, n))) (fun i => 257 - (intOf i).toNat)
  case atStart => exact ⟨0, by omega, rfl, fun j hj => by omega⟩
  case round =>
    obtain ⟨k, hk, rfl, hN⟩ := hrel
    by_cases hlt : k < 257
    · have hg1 := (vP_get (k1 := .u32) (k2 := .i64) codes k (by rw [codes_length]; exact hlt)).1
      have hg2 := (vP_get (k1 := .u32) (k2 := .i64) codes k (by rw [codes_length]; exact hlt)).2
      rw [← HB.out.cell] at hg1 hg2
      have hP : Hid (codes.getD k (0, 0) = ((codes.getD k (0, 0)).1, (codes.getD k (0, 0)).2)) := rfl
      generalize (codes.getD k (0, 0)).1 = p1 at *
      generalize (codes.getD k (0, 0)).2 = p2 at *
      by_cases h2 : p2 = n
      · have e2 : ((p2 : Int) == (n : Int)) = true := by rw [beq_iff_eq]; omega
        by_cases h1 : p1 = c
        · have e1 : ((p1 : Int) == (c : Int)) = true := by rw [beq_iff_eq]; omega
          have hL : Hid (look n c = some k) := look_is hlt (by rw [hP.out, h1, h2]) hN.out
          go_wp2
          go_ret
          rw [hL.out]
          exact ⟨rfl, rfl⟩
        · have e1 : ((p1 : Int) == (c : Int)) = false := by rw [beq_eq_false_iff_ne]; omega
          have hN2 : Hid (∀ j, j < k + 1 → codes.getD j (0, 0) ≠ (c, n)) := fun j hj e => by
            by_cases hjk : j = k
            · rw [hjk, hP.out] at e; injection e with e3 e4; exact h1 e3
            · exact hN.out j (by omega) e
          go_wp2
          go_round
          case rel => exact ⟨k + 1, by omega, by go_num, hN2⟩
          case measure => simp [intOf]; omega
      · have e2 : ((p2 : Int) == (n : Int)) = false := by rw [beq_eq_false_iff_ne]; omega
        have hN2 : Hid (∀ j, j < k + 1 → codes.getD j (0, 0) ≠ (c, n)) := fun j hj e => by
          by_cases hjk : j = k
          · rw [hjk, hP.out] at e; injection e with e3 e4; exact h2 e4
          · exact hN.out j (by omega) e
        go_wp2
        go_round
        case rel => exact ⟨k + 1, by omega, by go_num, hN2⟩
        case measure => simp [intOf]; omega
    · obtain rfl : k = 257 := by omega
      have hL : Hid (look n c = none) := look_not hN.out
      rw [show ((257 : Nat) : Int) = 257 from rfl]
      go_wp2
      go_ret
      rw [hL.out]
      exact ⟨rfl, rfl⟩

theorem and_1_u32 (x m : Nat) (hx : x < 256) (hm : m ≤ 7) : bits .and .u32 ((x : Int) / 2 ^ m % 4294967296) 1 = ((x / 2 ^ m % 2 : Nat) : Int) := by
  have key : ∀ m : Fin 8, ∀ x : Fin 256, bits .and .u32 ((x.val : Int) / 2 ^ m.val % 4294967296) 1 = ((x.val / 2 ^ m.val % 2 : Nat) : Int) := by decide +kernel
  exact key ⟨m, by omega⟩ ⟨x, hx⟩
theorem wraps32 (n : Int) (h₀ : 0 ≤ n) (h₁ : n < 2 ^ 32) : IntKind.u32.wrap n = n := by
  simp [IntKind.wrap, IntKind.bits, IntKind.signed]; omega
theorem or_bit_u32 (c x : Nat) (hc : c < 536870912) (hx : x ≤ 1) : bits .or .u32 ((c : Int) * 2) (x : Int) = ((2 * c + x : Nat) : Int) := by
  rw [show ((c : Int) * 2) = ((c * 2 : Nat) : Int) from by omega, bits_join .u32 32 (by decide) wraps32 1 ((c * 2 : Nat) : Int) (x : Int) (by omega) (by omega) (by omega) (by omega) (by omega) (by omega)]
  omega

/-- Unhuffman's loop: k bits are read -/
structure UnAt (w : World) (b : Bytes) (g k c n : Nat) (ones : Bool) (A : Option Addr) (cp : Nat) (l : Bytes) (wr : World) : Prop where
  opn : Open n c
  eq : ugo ((ubits b).drop k) c n ones l = unhuf b
  le : l.length ≤ 4096
  app : App (New w) wr 5 1 A l.length cp (bvs l)
  blk : Blk wr g 133 (vP .u32 .i64 codes)
  frm : Frm (New w) w wr
theorem UnAt.none_ {w wr : World} {b l : Bytes} {g k c n cp x : Nat} {ones : Bool} {A : Option Addr} (h : UnAt w b g k c n ones A cp l wr) (hd : (ubits b).drop k = x :: (ubits b).drop (k + 1)) (hx : x ≤ 1) (hl : look (n + 1) (2 * c + x) = none) :
    UnAt w b g (k + 1) (2 * c + x) (n + 1) (ones && x == 1) A cp l wr := by
  have h1 := h.eq
  rw [hd, ugo_none _ _ _ hl] at h1
  exact { h with opn := (h.opn.step x hx).2.2 hl, eq := h1 }
theorem UnAt.huf {w wr : World} {b l : Bytes} {g k c n cp x : Nat} {ones : Bool} {A : Option Addr} (h : UnAt w b g k c n ones A cp l wr) (hd : (ubits b).drop k = x :: (ubits b).drop (k + 1)) (hl : look (n + 1) (2 * c + x) = some 256) :
    unhuf b = ([], 22) := by
  have h1 := h.eq
  rw [hd, ugo_some _ _ _ hl, if_pos rfl] at h1
  exact h1.symm
theorem UnAt.long {w wr : World} {b l : Bytes} {g k c n cp x s : Nat} {ones : Bool} {A : Option Addr} (h : UnAt w b g k c n ones A cp l wr) (hd : (ubits b).drop k = x :: (ubits b).drop (k + 1)) (hl : look (n + 1) (2 * c + x) = some s) (hs : s ≠ 256) (h4 : 4096 ≤ l.length) :
    unhuf b = ([], 23) := by
  have h1 := h.eq
  rw [hd, ugo_some _ _ _ hl, if_neg hs, if_pos h4] at h1
  exact h1.symm
theorem UnAt.some_ {w wr w2 : World} {b l : Bytes} {g k c n cp cp2 x s : Nat} {ones : Bool} {A A2 : Option Addr} (h : UnAt w b g k c n ones A cp l wr) (hd : (ubits b).drop k = x :: (ubits b).drop (k + 1)) (hl : look (n + 1) (2 * c + x) = some s) (hs : s ≠ 256) (h4 : ¬ 4096 ≤ l.length)
    (hA : App (New w) w2 5 1 A2 (l ++ [UInt8.ofNat s]).length cp2 (bvs (l ++ [UInt8.ofNat s]))) (hB : Blk w2 g 133 (vP .u32 .i64 codes)) (hF : Frm (New w) wr w2) : UnAt w b g (k + 1) 0 0 true A2 cp2 (l ++ [UInt8.ofNat s]) w2 := by
  have h1 := h.eq
  rw [hd, ugo_some _ _ _ hl, if_neg hs, if_neg h4] at h1
  exact ⟨Open.zero, h1, by simp; omega, hA, hB, h.frm.trans hF⟩
theorem look_few {n c : Nat} (h : n < 5) : look n c = none := by
  cases hl : look n c with
  | none => rfl
  | some s =>
    obtain ⟨h1, h2⟩ := look_some n c s hl
    have := (codes_fit ⟨s, h1⟩).2.2.1
    simp only [h2] at this
    omega

set_option maxRecDepth 100000 in
set_option maxHeartbeats 2000000 in
theorem unhuffman_any (b : Bytes) (A : Option Addr) (cb : Nat) (w : World) (hR : Rd w A (bvs b)) (hl : b.length ≤ 1099511627776) :
    Calls Try.prog 70 #[.slice A b.length cb] w fun e w' => e = .returned (.tuple #[str (unhuf b).1, .int .i64 ((unhuf b).2 : Nat)]) ∧ Frm (New w) w w' := by
  have HR := Lib.hid hR
  clear hR
  go_enter Try.func70, Try.ntmps70
  go_wp2_with (go_at_call 71; refine (rcodes_any _).mono ?_; rintro e w2 ⟨g, rfl, hg, hb2, hF2⟩)
  have H := Lib.hid (show UnAt w b g 0 0 0 true none 0 [] w2 from ⟨Open.zero, rfl, by simp, App.none_, hb2, hF2⟩)
  clear hb2 hF2
  go_loopw [5, 6, 7, 8, 9] (fun o c n ones i wr => ∃ (k cc nn : Nat) (on : Bool) (A' : Option Addr) (cp : Nat) (l : Bytes), k ≤ 8 * b.length ∧ i = .int .i64 k ∧ c = .int .u32 cc ∧ n = .int .i64 nn ∧ ones = .bool on ∧ o = .slice A' l.length cp ∧ Hid (UnAt w b g k cc nn on A' cp l wr)) (fun _ _ _ _ i _ => 8 * b.length - (intOf i).toNat)
  case atStart => exact ⟨0, 0, 0, true, none, 0, [], by omega, rfl, rfl, rfl, rfl, rfl, H⟩
  case round =>
    obtain ⟨k, c, n, on, A', cp, l, hk, rfl, rfl, rfl, rfl, rfl, hU⟩ := hrel
    clear H
    have hopn := hU.out.opn.le
    have hl4 := hU.out.le
    by_cases hlt : k < 8 * b.length
    · have hk8 : k / 8 < b.length := by omega
      have hRd := HR.out.fresh hU.out.frm
      obtain ⟨gb, off, rfl, hx⟩ := hRd.at_ (k := k / 8) (by rw [bvs_length]; exact hk8)
      have hdrop := ubits_drop b k hk8
      simp only [bvs, List.getElem_map, bv] at hx
      have hb8 : (b[k / 8]).toNat < 256 := (b[k / 8]).toNat_lt
      generalize b[k / 8] = by_ at *
      obtain ⟨m7, hm7⟩ : ∃ m7 : Nat, m7 = 7 - k % 8 := ⟨_, rfl⟩
      rw [← hm7] at hdrop
      have g1 : IntKind.i64.wrap (7 - (k : Int) % 8) = (m7 : Int) := by rw [IntWalk.i64_in _ (by omega)]; omega
      have hm7b : m7 ≤ 7 := by omega
      have hand := and_1_u32 by_.toNat m7 hb8 hm7b
      have hx1 : by_.toNat / 2 ^ m7 % 2 ≤ 1 := by omega
      generalize by_.toNat / 2 ^ m7 % 2 = x at *
      have hor := or_bit_u32 c x hopn.2 hx1
      have hcn : 2 * c + x < 1073741824 := by omega
      have hNone := fun h => hU.out.none_ hdrop hx1 h
      have hHuf := fun h => hU.out.huf hdrop h
      have hLong := fun s h => hU.out.long (s := s) hdrop h
      have hSome := fun s A2 cp2 w2 h => hU.out.some_ (s := s) (A2 := A2) (cp2 := cp2) (w2 := w2) hdrop h
      have hFew : n + 1 < 5 → look (n + 1) (2 * c + x) = none := look_few
      generalize hc2 : 2 * c + x = c2 at *
      have hones : ∀ on : Bool, (on && x == 1) = (on && (x == 1)) := fun _ => rfl
      have hsg := fun w' h => sign_any g c2 (n + 1) w' h
      have hlk : ∀ s, look (n + 1) c2 = some s → s < 257 := fun s h => (look_some _ _ _ h).1
      have HRD := Lib.hid hRd
      have HDROP := Lib.hid hdrop
      have HM7 := Lib.hid hm7
      have HNONE := Lib.hid hNone
      have HHUF := Lib.hid hHuf
      have HLONG := Lib.hid hLong
      have HSOME := Lib.hid hSome
      have HC2 := Lib.hid hc2
      have HONES := Lib.hid hones
      have HFEW := Lib.hid hFew
      have HSG := Lib.hid hsg
      have HLK := Lib.hid hlk
      clear hRd hdrop hm7 hNone hHuf hLong hSome hc2 hones hFew hsg hlk
      go_upto_region 8 with (fail)
      go_cut [6, 7, 8] from 13 to 59 (fun v6 v7 v8 w5 => (v6 = .int .u32 c2 ∧ v7 = .int .i64 ((n + 1 : Nat) : Int) ∧ v8 = .bool (on && x == 1)) ∧ wr = w5)
      case first =>
        have hx01 : x = 0 ∨ x = 1 := by omega
        rcases hx01 with rfl | rfl
        · go_wp2
          all_goals go_meet
          all_goals refine ⟨⟨congrArg (Value.int .u32) hor, by go_num, ?_⟩, rfl⟩
          all_goals simp [*]
        · go_wp2
          all_goals go_meet
          all_goals refine ⟨⟨congrArg (Value.int .u32) hor, by go_num, ?_⟩, rfl⟩
          all_goals simp [*]
      case rest =>
        obtain ⟨⟨rfl, rfl, rfl⟩, rfl⟩ := hcut
        generalize (on && x == 1) = on2 at *
        by_cases h5 : n + 1 < 5
        · have hUn := Lib.hid (HNONE.out (HFEW.out h5))
          go_wp2
          go_roundw
          case rel => exact ⟨k + 1, c2, n + 1, on2, A', cp, l, by omega, by go_num, rfl, rfl, rfl, rfl, hUn⟩
          case measure => simp [intOf]; omega
        · have hB := Lib.hid hU.out.blk
          have hA := Lib.hid hU.out.app
          cases hlo : look (n + 1) c2 with
          | none =>
            have hUn := Lib.hid (HNONE.out hlo)
            have hs2 : Hid (sgn (look (n + 1) c2) = -1) := by show _ = _; rw [hlo]; rfl
            have HLO := Lib.hid hlo
            clear hlo
            go_wp2_with (go_at_call 89; refine (HSG.out _ hB.out).mono ?_; rintro e w5 ⟨rfl, hw5⟩; subst hw5; rw [hs2.out])
            go_roundw
            case rel => exact ⟨k + 1, c2, n + 1, on2, A', cp, l, by omega, by go_num, rfl, rfl, rfl, rfl, hUn⟩
            case measure => simp [intOf]; omega
          | some s =>
            have hs257 := HLK.out s hlo
            have hs2 : Hid (sgn (look (n + 1) c2) = (s : Int)) := by show _ = _; rw [hlo]; rfl
            by_cases h256 : s = 256
            · subst h256
              have hun : Hid (unhuf b = ([], 22)) := HHUF.out hlo
              have HLO := Lib.hid hlo
              clear hlo
              go_wp2_with (go_at_call 89; refine (HSG.out _ hB.out).mono ?_; rintro e w5 ⟨rfl, hw5⟩; subst hw5; rw [hs2.out])
              go_ret2
              rw [hun.out]
              exact ⟨rfl, hU.out.frm⟩
            · have h256' : ¬ ((s : Int) = 256) := by omega
              by_cases h4 : 4096 ≤ l.length
              · have hun : Hid (unhuf b = ([], 23)) := HLONG.out s hlo h256 h4
                have HLO := Lib.hid hlo
                clear hlo
                go_wp2_with (go_at_call 89; refine (HSG.out _ hB.out).mono ?_; rintro e w5 ⟨rfl, hw5⟩; subst hw5; rw [hs2.out])
                go_ret2
                rw [hun.out]
                exact ⟨rfl, hU.out.frm⟩
              · have hUn := Lib.hid (fun A2 cp2 w2 => HSOME.out s A2 cp2 w2 hlo h256 h4)
                have HLO := Lib.hid hlo
                clear hlo
                have hbs : bvs [UInt8.ofNat s] = [Value.int .u8 (s : Int)] := by simp [bvs, bv]; omega
                have HBS := Lib.hid hbs
                clear hbs
                go_wp2_with (first
                  | (go_at_call 89; refine (HSG.out _ hB.out).mono ?_; rintro e w5 ⟨rfl, hw5⟩; subst hw5; rw [hs2.out])
                  | (at_builtin; refine wpList_append_lit u8s rfl rfl rfl hA.out (Up.new.of hU.out.frm.size) rfl rfl (one_cell _ rfl) (by omega) ?_; intro A4 c4 w5 hA4 hF4 _ hW4))
                go_roundw
                case rel =>
                  refine ⟨k + 1, 0, 0, true, A4, c4, l ++ [UInt8.ofNat s], by omega, by go_num, rfl, rfl, rfl, by simp, hUn.out A4 c4 w5 ?_ (hB.out.app hA.out (by decide) hW4) hF4⟩
                  rw [bvs_append, List.length_append, HBS.out]
                  exact hA4
                case measure => simp [intOf]; omega
    · obtain rfl : k = 8 * b.length := by omega
      have heq := hU.out.eq
      rw [List.drop_eq_nil_of_le (by rw [ubits_length]; omega), ugo_nil] at heq
      have hF := hU.out.frm
      have hcv := run_conv (c := cp) hU.out.app.rd
      simp only [str] at hcv
      have HEQ := Lib.hid heq
      have HF := Lib.hid hF
      have HU2 := Lib.hid hU
      clear heq hF hU
      by_cases hq : 8 ≤ n ∨ on = false
      · have hun : Hid (unhuf b = ([], 22)) := by show _ = _; rw [← HEQ.out, if_pos hq]
        clear HEQ
        by_cases hq8 : 8 ≤ n
        · go_wp2
          go_ret2
          rw [hun.out]
          exact ⟨rfl, HF.out⟩
        · have hof : on = false := by rcases hq with h | h; exact absurd h hq8; exact h
          subst hof
          go_wp2
          go_ret2
          rw [hun.out]
          exact ⟨rfl, HF.out⟩
      · have hun : Hid (unhuf b = (l, 0)) := by show _ = _; rw [← HEQ.out, if_neg hq]
        have hq8 : ¬ 8 ≤ n := fun h => hq (.inl h)
        have hof : on = true := by cases on; exact absurd (.inr rfl) hq; rfl
        subst hof
        clear hq HEQ
        go_wp2
        go_ret2
        rw [hun.out]
        exact ⟨rfl, HF.out⟩
end Go.Proofs.Ytcebckkpablagaa.M
