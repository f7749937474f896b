/- The reference's sign, Unhuffman: what they return. Bytes fewer than 2^40. The reference's ReadPrefix: what it returns for any slice of bytes, any prefix of 1 to 8 bits. The reference's StrBits: what it returns. -/
import Derived.Deep.CutBlock
import Derived.Test.YtdgggjeiflllhaaDecp
import Derived.Test.YtdgggjeiflllhaaRhuf
import Derived.Test.YtdgggjeiflllhaaIn
import Derived.Test.YtdgggjeiflllhaaMem
import Derived.Test.YtdgggjeiflllhaaKey
namespace Go.Proofs.Ytdgggjeiflllhaa.M
open Go.ChangeShapes Go.WideShapes Go.ChangeAt Go.RowKit

def sgn : Option Nat → Int
  | some s => (s : Int)
  | none => -1
theorem look_is {n c s : Nat} (hs : s < 257) (h : codes.getD s (0, 0) = (c, n)) (h0 : ∀ j, j < s → codes.getD j (0, 0) ≠ (c, n)) : look n c = some s := by
  unfold look
  rw [List.findIdx?_eq_some_iff_getElem]
  have hg := codes_get s hs
  refine ⟨by rw [codes_length]; exact hs, ?_, fun j hj => ?_⟩
  · have := List.getElem?_eq_getElem (l := codes) (i := s) (by rw [codes_length]; exact hs)
    rw [hg] at this
    have this := Option.some.inj this
    rw [← this, h]; exact decide_eq_true rfl
  · have h1 := codes_get j (by omega)
    have := List.getElem?_eq_getElem (l := codes) (i := j) (by rw [codes_length]; omega)
    rw [h1] at this
    have this := Option.some.inj this
    rw [← this, decide_eq_true_eq]
    exact h0 j hj
theorem look_not {n c : Nat} (h0 : ∀ j, j < 257 → codes.getD j (0, 0) ≠ (c, n)) : look n c = none := by
  cases h : look n c with
  | none => rfl
  | some s =>
    obtain ⟨h1, h2⟩ := look_some n c s h
    exact absurd h2 (h0 s h1)

set_option maxRecDepth 100000 in
set_option maxHeartbeats 1000000 in
theorem sign_any (g c n : Nat) (w : World) (hb : Blk w g 183 (vP .u32 .i64 codes)) :
    Calls Try.prog 141 #[.slice (some ⟨g, 0, none⟩) 257 257, .int .u32 c, .int .i64 n] w fun e w' => e = .returned (.int .i64 (sgn (look n c))) ∧ w' = w := by
  have HB := Lib.hid hb
  clear hb
  go_enter Try.func141, Try.ntmps141
  go_wp2
  go_loop [7] (fun i => ∃ k : Nat, k ≤ 257 ∧ i = .int .i64 k ∧ Hid (∀ j, j < k → codes.getD j (0, 0) ≠ (c, n))) (fun i => 257 - (intOf i).toNat)
  case atStart => exact ⟨0, by omega, rfl, fun j hj => by omega⟩
  case round =>
    obtain ⟨k, hk, rfl, hN⟩ := hrel
    by_cases hlt : k < 257
    · have hg1 := (vP_get (k1 := .u32) (k2 := .i64) codes k (by rw [codes_length]; exact hlt)).1
      have hg2 := (vP_get (k1 := .u32) (k2 := .i64) codes k (by rw [codes_length]; exact hlt)).2
      rw [← HB.out.cell] at hg1 hg2
      have hP : Hid (codes.getD k (0, 0) = ((codes.getD k (0, 0)).1, (codes.getD k (0, 0)).2)) := rfl
      generalize (codes.getD k (0, 0)).1 = p1 at *
      generalize (codes.getD k (0, 0)).2 = p2 at *
      by_cases h2 : p2 = n
      · have e2 : ((p2 : Int) == (n : Int)) = true := by rw [beq_iff_eq]; omega
        by_cases h1 : p1 = c
        · have e1 : ((p1 : Int) == (c : Int)) = true := by rw [beq_iff_eq]; omega
          have hL : Hid (look n c = some k) := look_is hlt (by rw [hP.out, h1, h2]) hN.out
          go_wp2
          go_ret
          rw [hL.out]
          exact ⟨rfl, rfl⟩
        · have e1 : ((p1 : Int) == (c : Int)) = false := by rw [beq_eq_false_iff_ne]; omega
          have hN2 : Hid (∀ j, j < k + 1 → codes.getD j (0, 0) ≠ (c, n)) := fun j hj e => by
            by_cases hjk : j = k
            · rw [hjk, hP.out] at e; injection e with e3 e4; exact h1 e3
            · exact hN.out j (by omega) e
          go_wp2
          go_round
          case rel => exact ⟨k + 1, by omega, by go_num, hN2⟩
          case measure => simp [intOf]; omega
      · have e2 : ((p2 : Int) == (n : Int)) = false := by rw [beq_eq_false_iff_ne]; omega
        have hN2 : Hid (∀ j, j < k + 1 → codes.getD j (0, 0) ≠ (c, n)) := fun j hj e => by
          by_cases hjk : j = k
          · rw [hjk, hP.out] at e; injection e with e3 e4; exact h2 e4
          · exact hN.out j (by omega) e
        go_wp2
        go_round
        case rel => exact ⟨k + 1, by omega, by go_num, hN2⟩
        case measure => simp [intOf]; omega
    · obtain rfl : k = 257 := by omega
      have hL : Hid (look n c = none) := look_not hN.out
      rw [show ((257 : Nat) : Int) = 257 from rfl]
      go_wp2
      go_ret
      rw [hL.out]
      exact ⟨rfl, rfl⟩

theorem and_1_u32 (x m : Nat) (hx : x < 256) (hm : m ≤ 7) : bits .and .u32 ((x : Int) / 2 ^ m % 4294967296) 1 = ((x / 2 ^ m % 2 : Nat) : Int) := by
  have key : ∀ m : Fin 8, ∀ x : Fin 256, bits .and .u32 ((x.val : Int) / 2 ^ m.val % 4294967296) 1 = ((x.val / 2 ^ m.val % 2 : Nat) : Int) := by decide +kernel
  exact key ⟨m, by omega⟩ ⟨x, hx⟩
theorem wraps32 (n : Int) (h₀ : 0 ≤ n) (h₁ : n < 2 ^ 32) : IntKind.u32.wrap n = n := by
  simp [IntKind.wrap, IntKind.bits, IntKind.signed]; omega
theorem or_bit_u32 (c x : Nat) (hc : c < 536870912) (hx : x ≤ 1) : bits .or .u32 ((c : Int) * 2) (x : Int) = ((2 * c + x : Nat) : Int) := by
  rw [show ((c : Int) * 2) = ((c * 2 : Nat) : Int) from by omega, bits_join .u32 32 (by decide) wraps32 1 ((c * 2 : Nat) : Int) (x : Int) (by omega) (by omega) (by omega) (by omega) (by omega) (by omega)]
  omega

/-- Unhuffman's loop: k bits are read -/
structure UnAt (w : World) (b : Bytes) (g k c n : Nat) (ones : Bool) (A : Option Addr) (cp : Nat) (l : Bytes) (wr : World) : Prop where
  opn : Open n c
  eq : ugo ((ubits b).drop k) c n ones l = unhuf b
  le : l.length ≤ 4096
  app : App (New w) wr 5 1 A l.length cp (bvs l)
  blk : Blk wr g 183 (vP .u32 .i64 codes)
  frm : Frm (New w) w wr
theorem UnAt.none_ {w wr : World} {b l : Bytes} {g k c n cp x : Nat} {ones : Bool} {A : Option Addr} (h : UnAt w b g k c n ones A cp l wr) (hd : (ubits b).drop k = x :: (ubits b).drop (k + 1)) (hx : x ≤ 1) (hl : look (n + 1) (2 * c + x) = none) :
    UnAt w b g (k + 1) (2 * c + x) (n + 1) (ones && x == 1) A cp l wr := by
  have h1 := h.eq
  rw [hd, ugo_none _ _ _ hl] at h1
  exact { h with opn := (h.opn.step x hx).2.2 hl, eq := h1 }
theorem UnAt.huf {w wr : World} {b l : Bytes} {g k c n cp x : Nat} {ones : Bool} {A : Option Addr} (h : UnAt w b g k c n ones A cp l wr) (hd : (ubits b).drop k = x :: (ubits b).drop (k + 1)) (hl : look (n + 1) (2 * c + x) = some 256) :
    unhuf b = ([], 22) := by
  have h1 := h.eq
  rw [hd, ugo_some _ _ _ hl, if_pos rfl] at h1
  exact h1.symm
theorem UnAt.long {w wr : World} {b l : Bytes} {g k c n cp x s : Nat} {ones : Bool} {A : Option Addr} (h : UnAt w b g k c n ones A cp l wr) (hd : (ubits b).drop k = x :: (ubits b).drop (k + 1)) (hl : look (n + 1) (2 * c + x) = some s) (hs : s ≠ 256) (h4 : 4096 ≤ l.length) :
    unhuf b = ([], 23) := by
  have h1 := h.eq
  rw [hd, ugo_some _ _ _ hl, if_neg hs, if_pos h4] at h1
  exact h1.symm
theorem UnAt.some_ {w wr w2 : World} {b l : Bytes} {g k c n cp cp2 x s : Nat} {ones : Bool} {A A2 : Option Addr} (h : UnAt w b g k c n ones A cp l wr) (hd : (ubits b).drop k = x :: (ubits b).drop (k + 1)) (hl : look (n + 1) (2 * c + x) = some s) (hs : s ≠ 256) (h4 : ¬ 4096 ≤ l.length)
    (hA : App (New w) w2 5 1 A2 (l ++ [UInt8.ofNat s]).length cp2 (bvs (l ++ [UInt8.ofNat s]))) (hB : Blk w2 g 183 (vP .u32 .i64 codes)) (hF : Frm (New w) wr w2) : UnAt w b g (k + 1) 0 0 true A2 cp2 (l ++ [UInt8.ofNat s]) w2 := by
  have h1 := h.eq
  rw [hd, ugo_some _ _ _ hl, if_neg hs, if_neg h4] at h1
  exact ⟨Open.zero, h1, by simp; omega, hA, hB, h.frm.trans hF⟩
theorem look_few {n c : Nat} (h : n < 5) : look n c = none := by
  cases hl : look n c with
  | none => rfl
  | some s =>
    obtain ⟨h1, h2⟩ := look_some n c s hl
    have := (codes_fit ⟨s, h1⟩).2.2.1
    simp only [h2] at this
    omega

set_option maxRecDepth 100000 in
set_option maxHeartbeats 2000000 in
theorem unhuffman_any (b : Bytes) (A : Option Addr) (cb : Nat) (w : World) (hR : Rd w A (bvs b)) (hl : b.length ≤ 1099511627776) :
    Calls Try.prog 126 #[.slice A b.length cb] w fun e w' => e = .returned (.tuple #[str (unhuf b).1, .int .i64 ((unhuf b).2 : Nat)]) ∧ Frm (New w) w w' := by
  have HR := Lib.hid hR
  clear hR
  go_enter Try.func126, Try.ntmps126
  go_wp2_with (go_at_call 128; refine (rcodes_any _).mono ?_; rintro e w2 ⟨g, rfl, hg, hb2, hF2⟩)
  have H := Lib.hid (show UnAt w b g 0 0 0 true none 0 [] w2 from ⟨Open.zero, rfl, by simp, App.none_, hb2, hF2⟩)
  clear hb2 hF2
  go_loopw [5, 6, 7, 8, 9] (fun o c n ones i wr => ∃ (k cc nn : Nat) (on : Bool) (A' : Option Addr) (cp : Nat) (l : Bytes), k ≤ 8 * b.length ∧ i = .int .i64 k ∧ c = .int .u32 cc ∧ n = .int .i64 nn ∧ ones = .bool on ∧ o = .slice A' l.length cp ∧ Hid (UnAt w b g k cc nn on A' cp l wr)) (fun _ _ _ _ i _ => 8 * b.length - (intOf i).toNat)
  case atStart => exact ⟨0, 0, 0, true, none, 0, [], by omega, rfl, rfl, rfl, rfl, rfl, H⟩
  case round =>
    obtain ⟨k, c, n, on, A', cp, l, hk, rfl, rfl, rfl, rfl, rfl, hU⟩ := hrel
    clear H
    have hopn := hU.out.opn.le
    have hl4 := hU.out.le
    by_cases hlt : k < 8 * b.length
    · have hk8 : k / 8 < b.length := by omega
      have hRd := HR.out.fresh hU.out.frm
      obtain ⟨gb, off, rfl, hx⟩ := hRd.at_ (k := k / 8) (by rw [bvs_length]; exact hk8)
      have hdrop := ubits_drop b k hk8
      simp only [bvs, List.getElem_map, bv] at hx
      have hb8 : (b[k / 8]).toNat < 256 := (b[k / 8]).toNat_lt
      generalize b[k / 8] = by_ at *
      obtain ⟨m7, hm7⟩ : ∃ m7 : Nat, m7 = 7 - k % 8 := ⟨_, rfl⟩
      rw [← hm7] at hdrop
      have g1 : IntKind.i64.wrap (7 - (k : Int) % 8) = (m7 : Int) := by rw [IntWalk.i64_in _ (by omega)]; omega
      have hm7b : m7 ≤ 7 := by omega
      have hand := and_1_u32 by_.toNat m7 hb8 hm7b
      have hx1 : by_.toNat / 2 ^ m7 % 2 ≤ 1 := by omega
      generalize by_.toNat / 2 ^ m7 % 2 = x at *
      have hor := or_bit_u32 c x hopn.2 hx1
      have hcn : 2 * c + x < 1073741824 := by omega
      have hNone := fun h => hU.out.none_ hdrop hx1 h
      have hHuf := fun h => hU.out.huf hdrop h
      have hLong := fun s h => hU.out.long (s := s) hdrop h
      have hSome := fun s A2 cp2 w2 h => hU.out.some_ (s := s) (A2 := A2) (cp2 := cp2) (w2 := w2) hdrop h
      have hFew : n + 1 < 5 → look (n + 1) (2 * c + x) = none := look_few
      generalize hc2 : 2 * c + x = c2 at *
      have hones : ∀ on : Bool, (on && x == 1) = (on && (x == 1)) := fun _ => rfl
      have hsg := fun w' h => sign_any g c2 (n + 1) w' h
      have hlk : ∀ s, look (n + 1) c2 = some s → s < 257 := fun s h => (look_some _ _ _ h).1
      have HRD := Lib.hid hRd
      have HDROP := Lib.hid hdrop
      have HM7 := Lib.hid hm7
      have HNONE := Lib.hid hNone
      have HHUF := Lib.hid hHuf
      have HLONG := Lib.hid hLong
      have HSOME := Lib.hid hSome
      have HC2 := Lib.hid hc2
      have HONES := Lib.hid hones
      have HFEW := Lib.hid hFew
      have HSG := Lib.hid hsg
      have HLK := Lib.hid hlk
      clear hRd hdrop hm7 hNone hHuf hLong hSome hc2 hones hFew hsg hlk
      go_upto_region 8 with (fail)
      go_cut [6, 7, 8] from 13 to 59 (fun v6 v7 v8 w5 => (v6 = .int .u32 c2 ∧ v7 = .int .i64 ((n + 1 : Nat) : Int) ∧ v8 = .bool (on && x == 1)) ∧ wr = w5)
      case first =>
        have hx01 : x = 0 ∨ x = 1 := by omega
        rcases hx01 with rfl | rfl
        · go_wp2
          all_goals go_meet
          all_goals refine ⟨⟨congrArg (Value.int .u32) hor, by go_num, ?_⟩, rfl⟩
          all_goals simp [*]
        · go_wp2
          all_goals go_meet
          all_goals refine ⟨⟨congrArg (Value.int .u32) hor, by go_num, ?_⟩, rfl⟩
          all_goals simp [*]
      case rest =>
        obtain ⟨⟨rfl, rfl, rfl⟩, rfl⟩ := hcut
        generalize (on && x == 1) = on2 at *
        by_cases h5 : n + 1 < 5
        · have hUn := Lib.hid (HNONE.out (HFEW.out h5))
          go_wp2
          go_roundw
          case rel => exact ⟨k + 1, c2, n + 1, on2, A', cp, l, by omega, by go_num, rfl, rfl, rfl, rfl, hUn⟩
          case measure => simp [intOf]; omega
        · have hB := Lib.hid hU.out.blk
          have hA := Lib.hid hU.out.app
          cases hlo : look (n + 1) c2 with
          | none =>
            have hUn := Lib.hid (HNONE.out hlo)
            have hs2 : Hid (sgn (look (n + 1) c2) = -1) := by show _ = _; rw [hlo]; rfl
            have HLO := Lib.hid hlo
            clear hlo
            go_wp2_with (go_at_call 141; refine (HSG.out _ hB.out).mono ?_; rintro e w5 ⟨rfl, hw5⟩; subst hw5; rw [hs2.out])
            go_roundw
            case rel => exact ⟨k + 1, c2, n + 1, on2, A', cp, l, by omega, by go_num, rfl, rfl, rfl, rfl, hUn⟩
            case measure => simp [intOf]; omega
          | some s =>
            have hs257 := HLK.out s hlo
            have hs2 : Hid (sgn (look (n + 1) c2) = (s : Int)) := by show _ = _; rw [hlo]; rfl
            by_cases h256 : s = 256
            · subst h256
              have hun : Hid (unhuf b = ([], 22)) := HHUF.out hlo
              have HLO := Lib.hid hlo
              clear hlo
              go_wp2_with (go_at_call 141; refine (HSG.out _ hB.out).mono ?_; rintro e w5 ⟨rfl, hw5⟩; subst hw5; rw [hs2.out])
              go_ret2
              rw [hun.out]
              exact ⟨rfl, hU.out.frm⟩
            · have h256' : ¬ ((s : Int) = 256) := by omega
              by_cases h4 : 4096 ≤ l.length
              · have hun : Hid (unhuf b = ([], 23)) := HLONG.out s hlo h256 h4
                have HLO := Lib.hid hlo
                clear hlo
                go_wp2_with (go_at_call 141; refine (HSG.out _ hB.out).mono ?_; rintro e w5 ⟨rfl, hw5⟩; subst hw5; rw [hs2.out])
                go_ret2
                rw [hun.out]
                exact ⟨rfl, hU.out.frm⟩
              · have hUn := Lib.hid (fun A2 cp2 w2 => HSOME.out s A2 cp2 w2 hlo h256 h4)
                have HLO := Lib.hid hlo
                clear hlo
                have hbs : bvs [UInt8.ofNat s] = [Value.int .u8 (s : Int)] := by simp [bvs, bv]; omega
                have HBS := Lib.hid hbs
                clear hbs
                go_wp2_with (first
                  | (go_at_call 141; refine (HSG.out _ hB.out).mono ?_; rintro e w5 ⟨rfl, hw5⟩; subst hw5; rw [hs2.out])
                  | (at_builtin; refine wpList_append_lit u8s rfl rfl rfl hA.out (Up.new.of hU.out.frm.size) rfl rfl (one_cell _ rfl) (by omega) ?_; intro A4 c4 w5 hA4 hF4 _ hW4))
                go_roundw
                case rel =>
                  refine ⟨k + 1, 0, 0, true, A4, c4, l ++ [UInt8.ofNat s], by omega, by go_num, rfl, rfl, rfl, by simp, hUn.out A4 c4 w5 ?_ (hB.out.app hA.out (by decide) hW4) hF4⟩
                  rw [bvs_append, List.length_append, HBS.out]
                  exact hA4
                case measure => simp [intOf]; omega
    · obtain rfl : k = 8 * b.length := by omega
      have heq := hU.out.eq
      rw [List.drop_eq_nil_of_le (by rw [ubits_length]; omega), ugo_nil] at heq
      have hF := hU.out.frm
      have hcv := run_conv (c := cp) hU.out.app.rd
      simp only [str] at hcv
      have HEQ := Lib.hid heq
      have HF := Lib.hid hF
      have HU2 := Lib.hid hU
      clear heq hF hU
      by_cases hq : 8 ≤ n ∨ on = false
      · have hun : Hid (unhuf b = ([], 22)) := by show _ = _; rw [← HEQ.out, if_pos hq]
        clear HEQ
        by_cases hq8 : 8 ≤ n
        · go_wp2
          go_ret2
          rw [hun.out]
          exact ⟨rfl, HF.out⟩
        · have hof : on = false := by rcases hq with h | h; exact absurd h hq8; exact h
          subst hof
          go_wp2
          go_ret2
          rw [hun.out]
          exact ⟨rfl, HF.out⟩
      · have hun : Hid (unhuf b = (l, 0)) := by show _ = _; rw [← HEQ.out, if_neg hq]
        have hq8 : ¬ 8 ≤ n := fun h => hq (.inl h)
        have hof : on = true := by cases on; exact absurd (.inr rfl) hq; rfl
        subst hof
        clear hq HEQ
        go_wp2
        go_ret2
        rw [hun.out]
        exact ⟨rfl, HF.out⟩
end Go.Proofs.Ytdgggjeiflllhaa.M
namespace Go.Proofs.Ytdgggjeiflllhaa.M
open Go.ChangeShapes Go.WideShapes Go.ChangeAt Go.RowKit

theorem and_low' (x k : Nat) (hx : x < 256) (hk : k ≤ 8) (p : Nat) (hp : 2 ^ k = p) : bits .and .u64 (x : Int) ((p : Int) - 1) = ((x % p : Nat) : Int) := by
  have := and_low x k hx hk
  subst hp
  rw [← this]
  congr 1
  have := Nat.two_pow_pos k
  omega
theorem and_128 (x : Nat) (hx : x < 256) : (bits .and .u8 (x : Int) 128 == 0) = decide (x < 128) := by
  have key : ∀ x : Fin 256, (bits .and .u8 (x.val : Int) 128 == 0) = decide (x.val < 128) := by decide +kernel
  exact key ⟨x, hx⟩

set_option maxRecDepth 100000 in
set_option maxHeartbeats 1000000 in
theorem rrdp_any (b : Bytes) (A : Option Addr) (c k : Nat) (w : World) (hR : Rd w A (bvs b)) (hl : b.length ≤ 140737488355328) (k0 : 1 ≤ k) (k1 : k ≤ 8) :
    Calls Try.prog 62 #[.slice A b.length c, .int .i64 k] w (Ret3 w (rdp b k)) := by
  have hm1 : max (k : Int) 1 = (k : Int) := by omega
  have hm2 : min (k : Int) 8 = (k : Int) := by omega
  cases b with
  | nil =>
    go_enter Try.func62, Try.ntmps62
    go_wp2
    go_ret3
    exact ⟨rfl, 0, rfl⟩
  | cons b r =>
    obtain ⟨p2, p256⟩ := pow_bd k k0 k1
    have hb : b.toNat < 256 := b.toNat_lt
    obtain ⟨g, off, rfl, hc0⟩ := hR.at_ (k := 0) (by simp)
    simp only [Nat.add_zero, bvs, List.map_cons, List.getElem_cons_zero, bv] at hc0
    have hpw : (2 : Int) ^ k = ((2 ^ k : Nat) : Int) := by simp
    have hbl : b.toNat % 2 ^ k < 2 ^ k := Nat.mod_lt _ (by omega)
    have hrd : rdp (b :: r) k = if b.toNat % 2 ^ k < 2 ^ k - 1 then (b.toNat % 2 ^ k, 1, 0) else rdMore 10 1 (2 ^ k - 1) r := rfl
    have HB : Hid (Rd w (some ⟨g, off, none⟩) (bvs (b :: r))) := hR
    rw [hrd]; clear hrd hR
    have hAN' := and_low' b.toNat k hb k1 _ rfl
    generalize 2 ^ k = p at *
    generalize b.toNat % p = v at *
    have hkb : (1 : Int) ≤ k := by omega
    have hkb2 : (k : Int) ≤ 8 := by omega
    generalize hn : (b :: r).length = n at *
    have HN : Hid ((b :: r).length = n) := hn
    have hn1 : 1 ≤ n := by rw [← hn]; simp
    clear hn
    by_cases hv : v < p - 1
    · rw [if_pos hv]
      have hv' : (v : Int) < (p : Int) - 1 := by omega
      go_enter Try.func62, Try.ntmps62
      go_wp2
      go_ret3
      exact ⟨rfl, 0, rfl⟩
    · rw [if_neg hv]
      have hv' : ¬ ((v : Int) < (p : Int) - 1) := by omega
      go_enter Try.func62, Try.ntmps62
      go_wp2
      have hv0 : (v : Int) = ((p - 1 : Nat) : Int) := by omega
      clear hAN' hpw hc0 hbl hm1 hm2
      go_loop [8, 9] (fun v i => ∃ (x j f : Nat), v = .int .u64 x ∧ i = .int .i64 j ∧ j + f = 11 ∧ 1 ≤ j ∧ x ≤ 4611686018427387903 ∧ rdMore 10 1 (p - 1) r = rdMore f j x (r.drop (j - 1))) (fun _ i => (11 - intOf i).toNat)
      case atStart => exact ⟨p - 1, 1, 10, by rw [hv0], rfl, rfl, by omega, by omega, by simp⟩
      case round =>
        obtain ⟨x, j, f, rfl, rfl, hjf, hj1, hx, hm⟩ := hrel
        have HM : Hid _ := hm
        clear hm
        cases f with
        | zero =>
          go_wp2
          go_ret3
          rw [HM.out]
          exact ⟨rfl, 0, rfl⟩
        | succ f =>
          by_cases hjn : n ≤ j
          · go_wp2
            go_ret3
            rw [HM.out, show r.drop (j - 1) = [] from List.drop_eq_nil_of_le (by have := HN.out; simp at this; omega)]
            exact ⟨rfl, 0, rfl⟩
          · obtain ⟨_, _, e, hcj⟩ := HB.out.at_ (k := j) (by rw [bvs_length, HN.out]; omega)
            simp only [Option.some.injEq, Addr.mk.injEq] at e
            obtain ⟨rfl, rfl, _⟩ := e
            obtain ⟨j, rfl⟩ : ∃ i, j = i + 1 := ⟨j - 1, by omega⟩
            have hjr : j < r.length := by have := HN.out; simp at this; omega
            have e2 : (bvs (b :: r))[j + 1]'(by simpa using hjr) = .int .u8 (r[j].toNat : Int) := by simp [bvs, bv]
            rw [e2] at hcj
            have e3 : r.drop j = r[j] :: r.drop (j + 1) := List.drop_eq_getElem_cons hjr
            have hy : r[j].toNat < 256 := r[j].toNat_lt
            generalize r[j] = y at *
            have h127 := and_127 y.toNat hy
            have h128 := and_128 y.toNat hy
            clear e2
            have E3 : Hid _ := e3
            clear e3
            have hP : (2 : Int) ^ (7 * j) = ((2 ^ (7 * j) : Nat) : Int) := by simp
            have hP1 : 1 ≤ 2 ^ (7 * j) := Nat.one_le_two_pow
            have hstep : rdMore (f + 1) (j + 1) x (r.drop (j + 1 - 1)) = if (4611686018427387903 - x) / 2 ^ (7 * j) < y.toNat % 128 then (0, 0, 21) else
                if y.toNat < 128 then (x + y.toNat % 128 * 2 ^ (7 * j), j + 1 + 1, 0) else rdMore f (j + 1 + 1) (x + y.toNat % 128 * 2 ^ (7 * j)) (r.drop (j + 1)) := by
              rw [Nat.add_sub_cancel, E3.out]; rfl
            have HM2 := Lib.hid (HM.out.trans hstep)
            clear hstep HM
            by_cases hj9 : j = 9
            · subst hj9
              have hz : (4611686018427387903 - x) / 2 ^ (7 * 9) = 0 := Nat.div_eq_of_lt (by omega)
              rw [hz] at HM2
              clear hz hP hP1
              by_cases hd : 0 < y.toNat % 128
              · have hM := HM2.out
                rw [if_pos hd] at hM
                have HM3 := Lib.hid hM
                clear hM HM2
                go_wp2
                go_ret3
                rw [HM3.out]
                exact ⟨rfl, 0, rfl⟩
              · have h0 : y.toNat % 128 = 0 := by omega
                have hM := HM2.out
                rw [if_neg hd, h0, Nat.zero_mul, Nat.add_zero] at hM
                have HM3 := Lib.hid hM
                clear hM HM2
                rw [h0] at h127
                by_cases hy2 : y.toNat < 128
                · rw [decide_eq_true hy2] at h128
                  have hM := HM3.out
                  rw [if_pos hy2] at hM
                  have HM4 := Lib.hid hM
                  clear hM HM3
                  go_wp2
                  go_ret3
                  rw [HM4.out]
                  exact ⟨rfl, 0, rfl⟩
                · rw [decide_eq_false hy2] at h128
                  have hM := HM3.out
                  rw [if_neg hy2] at hM
                  have HM4 := Lib.hid hM
                  clear hM HM3
                  go_wp2
                  go_round
                  case rel => exact ⟨x, 9 + 1 + 1, f, by go_num, by go_num, by omega, by omega, by omega, HM4.out⟩
                  case measure => simp [intOf]
            · have hj8 : j ≤ 8 := by omega
              generalize 2 ^ (7 * j) = P at *
              have hq : (4611686018427387903 - (x : Int)) / (P : Int) = (((4611686018427387903 - x) / P : Nat) : Int) := by
                rw [show (4611686018427387903 - (x : Int)) = ((4611686018427387903 - x : Nat) : Int) from by omega]; exact (Int.natCast_ediv _ _).symm
              by_cases hd : (4611686018427387903 - x) / P < y.toNat % 128
              · have hM := HM2.out
                rw [if_pos hd] at hM
                have HM3 := Lib.hid hM
                clear hM HM2
                generalize (4611686018427387903 - x) / P = q at *
                have hd' : (q : Int) < (y.toNat : Int) % 128 := by omega
                go_wp2
                go_ret3
                rw [HM3.out]
                exact ⟨rfl, 0, rfl⟩
              · have hM := HM2.out
                rw [if_neg hd] at hM
                have HM3 := Lib.hid hM
                clear hM HM2
                have hs : y.toNat % 128 * P ≤ 4611686018427387903 - x := Nat.le_trans (Nat.mul_le_mul_right _ (Nat.le_of_not_lt hd)) (Nat.div_mul_le_self _ _)
                have hsw : IntKind.u64.wrap ((y.toNat : Int) % 128 * (P : Int)) = ((y.toNat % 128 * P : Nat) : Int) := by
                  rw [show ((y.toNat : Int) % 128 * (P : Int)) = ((y.toNat % 128 * P : Nat) : Int) from by push_cast; rfl]
                  exact IntWalk.u64_in _ (by omega)
                generalize (4611686018427387903 - x) / P = q at *
                generalize y.toNat % 128 * P = s at *
                have hd' : ¬ (q : Int) < (y.toNat : Int) % 128 := by omega
                by_cases hy2 : y.toNat < 128
                · rw [decide_eq_true hy2] at h128
                  have hM := HM3.out
                  rw [if_pos hy2] at hM
                  have HM4 := Lib.hid hM
                  clear hM HM3
                  go_wp2
                  go_ret3
                  rw [HM4.out]
                  exact ⟨rfl, 0, rfl⟩
                · rw [decide_eq_false hy2] at h128
                  have hM := HM3.out
                  rw [if_neg hy2] at hM
                  have HM4 := Lib.hid hM
                  clear hM HM3
                  go_wp2
                  go_round
                  all_goals first
                    | exact ⟨_, _, _, _, _, ⟨x + s, rfl, j + 1 + 1, rfl, f, by omega, by omega, by omega, HM4.out⟩, rfl, rfl, rfl, congrArg (Value.int .u64) (by omega), congrArg (Value.int .i64) (by omega)⟩
                    | (simp [intOf]; omega)
end Go.Proofs.Ytdgggjeiflllhaa.M
namespace Go.Proofs.Ytdgggjeiflllhaa.M
open Go.ChangeShapes Go.WideShapes Go.ChangeAt Go.RowKit

theorem u8size : (Try.prog.info? 5).map (·.size) = some 1 := by kernel_rfl
/-- x[i:j] of bytes -/
theorem run_cut {o : Oper} {a : Act} {w : World} {x lo hi : Operand} {A : Option Addr} {n c i j : Nat} {u v : Int} (ho : o.op = .slice 23 x (some lo) (some hi) none) (hx : a.eval x = .slice A n c)
    (hlo : a.eval lo = .int .i64 u) (hhi : a.eval hi = .int .i64 v) (hu : u = (i : Int)) (hv : v = (j : Int)) (hij : i ≤ j) (hj : j ≤ c) :
    (execOp a.eval o).run Try.prog w = .ok (.value (.slice (if c = i then A else A.map (·.add i)) (j - i) (c - i))) w := by
  subst hu
  subst hv
  cases hi : Try.prog.info? 5 with
  | none => have := u8size; rw [hi] at this; cases this
  | some q =>
    have hs := u8size
    rw [hi] at hs
    have hs' : q.size = 1 := by simpa using hs
    unfold execOp
    have h3 : (0 : Int) ≤ (i : Int) := by omega
    have h4 : (0 : Int) ≤ (j : Int) := by omega
    simp only [ho, Option.map_some, Option.map_none, hlo, hhi, hx]
    simp [Instr.sliceAt, Instr.slice, Instr.sliceBounds, Instr.sliceBound, run_underlying Try.underlying23, sizeOf, typeInfo, hi, hs', asIntOf, h3, h4, hij, hj]
/-- x[i:] of bytes -/
theorem run_from {o : Oper} {a : Act} {w : World} {x lo : Operand} {A : Option Addr} {n c i : Nat} {u : Int} (ho : o.op = .slice 23 x (some lo) none none) (hx : a.eval x = .slice A n c)
    (hlo : a.eval lo = .int .i64 u) (hu : u = (i : Int)) (hin : i ≤ n) :
    (execOp a.eval o).run Try.prog w = .ok (.value (.slice (if c = i then A else A.map (·.add i)) (n - i) (c - i))) w := by
  subst hu
  cases hi : Try.prog.info? 5 with
  | none => have := u8size; rw [hi] at this; cases this
  | some q =>
    have hs := u8size
    rw [hi] at hs
    have hs' : q.size = 1 := by simpa using hs
    unfold execOp
    have h3 : (0 : Int) ≤ (i : Int) := by omega
    simp only [ho, Option.map_some, Option.map_none, hlo, hx]
    simp [Instr.sliceAt, Instr.slice, Instr.sliceBounds, Instr.sliceBound, run_underlying Try.underlying23, sizeOf, typeInfo, hi, hs', asIntOf, h3, hin]
/-- what such a slice reads -/
theorem Rd.sub {w : World} {A : Option Addr} {b : Bytes} (h : Rd w A (bvs b)) {c : Nat} (hc : b.length ≤ c) (i n : Nat) :
    ∃ A2, (if c = i then A else A.map (·.add i)) = A2 ∧ Rd w A2 (bvs ((b.drop i).take n)) := by
  refine ⟨_, rfl, ?_⟩
  have h1 := (h.cut i c (fun e => by rw [bvs_length]; omega)).take n
  simpa [bvs, List.map_drop, List.map_take] using h1
theorem Rd.from_ {w : World} {A : Option Addr} {b : Bytes} (h : Rd w A (bvs b)) {c : Nat} (hc : b.length ≤ c) (i : Nat) :
    ∃ A2, (if c = i then A else A.map (·.add i)) = A2 ∧ Rd w A2 (bvs (b.drop i)) := by
  refine ⟨_, rfl, ?_⟩
  have h1 := h.cut i c (fun e => by rw [bvs_length]; omega)
  simpa [bvs, List.map_drop] using h1
theorem head_and (x : Nat) (hx : x < 256) : bits .and .u8 ((x : Int) / 2 ^ 7) 1 = ((x / 128 % 2 : Nat) : Int) := by
  have key : ∀ x : Fin 256, bits .and .u8 ((x.val : Int) / 2 ^ 7) 1 = ((x.val / 128 % 2 : Nat) : Int) := by decide +kernel
  exact key ⟨x, hx⟩
theorem head_and' (x : Nat) (hx : x < 256) : bits .and .u8 ((x : Int) / 128) 1 = ((x / 128 % 2 : Nat) : Int) := by
  have key : ∀ x : Fin 256, bits .and .u8 ((x.val : Int) / 128) 1 = ((x.val / 128 % 2 : Nat) : Int) := by decide +kernel
  exact key ⟨x, hx⟩

/-- a string is handed back, how many bytes, an error's number -/
def RetS (w : World) (x : Bytes × Nat × Nat) (e : Ending) (w' : World) : Prop :=
  e = .returned (.tuple #[str x.1, .int .i64 (x.2.1 : Int), .int .i64 (x.2.2 : Int)]) ∧ Frm (New w) w w'

set_option maxRecDepth 100000 in
set_option maxHeartbeats 1000000 in
theorem strbits_any (b : Bytes) (A : Option Addr) (c : Nat) (w : World) (hR : Rd w A (bvs b)) (hl : b.length ≤ 1099511627776) (hc : b.length ≤ c) :
    Calls Try.prog 84 #[.slice A b.length c, .int .i64 7] w (RetS w (strD b 7)) := by
  have hrd := rrdp_any b A c 7 w hR (by omega) (by omega) (by omega)
  have hrg := rdp_range b 7 (by decide)
  have hD : Hid (strD b 7 = match rdp b 7 with
    | (n, at_, e) =>
      if e ≠ 0 then ([], 0, e) else if 4096 < n then ([], 0, 23) else if b.length - at_ < n then ([], 0, 20) else
      if (b.headD 0).toNat / 2 ^ 7 % 2 = 0 then ((b.drop at_).take n, at_ + n, 0) else
      match unhuf ((b.drop at_).take n) with
      | (s, e) => if e ≠ 0 then ([], 0, e) else (s, at_ + n, 0)) := rfl
  generalize rdp b 7 = q at *
  obtain ⟨n, at_, e⟩ := q
  unfold Ret3 at hrd
  simp only at hrd hrg
  have hD1 : Hid (strD b 7 = if e ≠ 0 then ([], 0, e) else if 4096 < n then ([], 0, 23) else if b.length - at_ < n then ([], 0, 20) else
      if (b.headD 0).toNat / 2 ^ 7 % 2 = 0 then ((b.drop at_).take n, at_ + n, 0) else
      match unhuf ((b.drop at_).take n) with
      | (s, e) => if e ≠ 0 then ([], 0, e) else (s, at_ + n, 0)) := hD.out
  clear hD
  by_cases he : e ≠ 0
  · have hD2 : Hid (strD b 7 = ([], 0, e)) := by show _ = _; rw [hD1.out, if_pos he]
    have he2 : ((e : Int) == 0) = false := by rw [beq_eq_false_iff_ne]; omega
    have HRD := Lib.hid hrd
    have HR := Lib.hid hR
    have HRG := Lib.hid hrg
    clear hrd hR hrg
    clear hD1
    go_enter Try.func84, Try.ntmps84
    go_wp2_with (go_at_call 62; refine HRD.out.mono ?_; rintro e w2 ⟨rfl, nn, rfl⟩)
    go_ret3
    unfold RetS
    rw [hD2.out]
    exact ⟨rfl, (Frm.refl _ _).drewN nn⟩
  · have he0 : e = 0 := by omega
    subst he0
    rw [show ((0 : Nat) : Int) = 0 from rfl] at hrd
    obtain ⟨hr1, hr2, hr3⟩ := hrg rfl
    have hD2 : Hid (strD b 7 = if 4096 < n then ([], 0, 23) else if b.length - at_ < n then ([], 0, 20) else
      if (b.headD 0).toNat / 2 ^ 7 % 2 = 0 then ((b.drop at_).take n, at_ + n, 0) else
      match unhuf ((b.drop at_).take n) with
      | (s, e) => if e ≠ 0 then ([], 0, e) else (s, at_ + n, 0)) := by show _ = _; rw [hD1.out, if_neg he]
    clear hD1 hrg he
    by_cases h4 : 4096 < n
    · have hD3 : Hid (strD b 7 = ([], 0, 23)) := by show _ = _; rw [hD2.out, if_pos h4]
      have HRD := Lib.hid hrd
      have HR := Lib.hid hR
      clear hrd hR
      clear hD2
      go_enter Try.func84, Try.ntmps84
      go_wp2_with (go_at_call 62; refine HRD.out.mono ?_; rintro e w2 ⟨rfl, nn, rfl⟩)
      go_ret3
      unfold RetS
      rw [hD3.out]
      exact ⟨rfl, (Frm.refl _ _).drewN nn⟩
    · have hw1 : IntKind.u64.wrap ((b.length : Int) - (at_ : Int)) = ((b.length - at_ : Nat) : Int) := by
        rw [show ((b.length : Int) - (at_ : Int)) = ((b.length - at_ : Nat) : Int) from by omega]; exact IntWalk.u64_in _ (by omega)
      by_cases hm : b.length - at_ < n
      · have hD3 : Hid (strD b 7 = ([], 0, 20)) := by show _ = _; rw [hD2.out, if_neg h4, if_pos hm]
        have HRD := Lib.hid hrd
        have HR := Lib.hid hR
        clear hrd hR
        clear hD2
        generalize hml : b.length - at_ = ml at *
        have HML := Lib.hid hml
        clear hml
        go_enter Try.func84, Try.ntmps84
        go_wp2_with (go_at_call 62; refine HRD.out.mono ?_; rintro e w2 ⟨rfl, nn, rfl⟩)
        go_ret3
        unfold RetS
        rw [hD3.out]
        exact ⟨rfl, (Frm.refl _ _).drewN nn⟩
      · obtain ⟨A2, hA2, hR2⟩ := hR.sub hc at_ n
        have hb1 : 0 < b.length := by omega
        obtain ⟨gb, off, hAe, hx0⟩ := hR.at_ (k := 0) (by rw [bvs_length]; exact hb1)
        subst hAe
        have hx1 : (b.headD 0).toNat < 256 := (b.headD 0).toNat_lt
        have hx : w.cell? ⟨gb, off, none⟩ = some (.int .u8 ((b.headD 0).toNat : Int)) := by
          rw [Nat.add_zero] at hx0
          rw [hx0]
          cases b with
          | nil => simp at hb1
          | cons x r => rfl
        clear hx0
        have hand := head_and _ hx1
        have hand' := head_and' _ hx1
        have hD3 : Hid (strD b 7 = if (b.headD 0).toNat / 128 % 2 = 0 then ((b.drop at_).take n, at_ + n, 0) else
          match unhuf ((b.drop at_).take n) with
          | (s, e) => if e ≠ 0 then ([], 0, e) else (s, at_ + n, 0)) := by show _ = _; rw [hD2.out, if_neg h4, if_neg hm]
        clear hD2
        generalize (b.headD 0).toNat / 128 % 2 = hb at *
        generalize (b.headD 0).toNat = hd at *
        have hln : ((b.drop at_).take n).length = n := by rw [List.length_take, List.length_drop]; omega
        generalize hbl : (b.drop at_).take n = l at *
        have hcv := fun q => run_conv (c := c - at_) (hR2.fresh ((Frm.refl (New w) w).drewN q))
        simp only [str] at hcv
        have hun := fun w' h => unhuffman_any l A2 (c - at_) w' h (by omega)
        rw [hln] at hcv hun
        have hi1 : IntKind.i64.wrap ((at_ : Int) + (n : Int)) = ((at_ + n : Nat) : Int) := by
          rw [show ((at_ : Int) + (n : Int)) = ((at_ + n : Nat) : Int) from by omega]; exact IntWalk.i64_in _ (by omega)
        have hCut : ∀ (o : Oper) (a : Act) (w' : World) (x lo hi : Operand) (u v : Int), o.op = .slice 23 x (some lo) (some hi) none → a.eval x = .slice (some ⟨gb, off, none⟩) b.length c → a.eval lo = .int .i64 u → a.eval hi = .int .i64 v → u = (at_ : Int) → v = ((at_ + n : Nat) : Int) →
            (execOp a.eval o).run Try.prog w' = .ok (.value (.slice A2 n (c - at_))) w' := fun o a w' x lo hi u v h1 h2 h3 h4 h5 h6 => by
          have := run_cut (w := w') h1 h2 h3 h4 h5 h6 (by omega) (by omega)
          rw [hA2, Nat.add_sub_cancel_left] at this
          exact this
        have HRD := Lib.hid hrd
        have HR := Lib.hid hR
        have HR2 := Lib.hid hR2
        have HA2 := Lib.hid hA2
        have HLN := Lib.hid hln
        have HBL := Lib.hid hbl
        have HUN := Lib.hid hun
        have HCV := Lib.hid hcv
        have HCUT := Lib.hid hCut
        clear hrd hR hR2 hA2 hln hbl hun hcv hCut
        by_cases h0 : hb = 0
        · subst h0
          have hD4 : Hid (strD b 7 = (l, at_ + n, 0)) := by show _ = _; rw [hD3.out, if_pos rfl]
          clear hD3 HUN
          have hcv := HCV.out
          go_enter Try.func84, Try.ntmps84
          go_wp2_with (first
            | (go_at_call 62; refine HRD.out.mono ?_; rintro e w2 ⟨rfl, nn, rfl⟩)
            | (refine wpList_val rfl (.slice A2 n (c - at_)) (HCUT.out _ _ _ _ _ _ _ _ rfl rfl rfl rfl rfl rfl) ?_))
          go_ret3
          unfold RetS
          rw [hD4.out]
          exact ⟨rfl, (Frm.refl _ _).drewN nn⟩
        · have h0' : ((hb : Int) == 0) = false := by rw [beq_eq_false_iff_ne]; omega
          have hD4 : Hid (strD b 7 = match unhuf l with | (s, e) => if e ≠ 0 then ([], 0, e) else (s, at_ + n, 0)) := by show _ = _; rw [hD3.out, if_neg h0]
          clear hD3
          have hun := HUN.out
          clear HUN
          generalize unhuf l = q at *
          obtain ⟨s, e⟩ := q
          simp only [str] at hun
          have hD5 : Hid (strD b 7 = if e ≠ 0 then ([], 0, e) else (s, at_ + n, 0)) := hD4.out
          have HUN := Lib.hid hun
          clear hun
          clear hD4
          by_cases he : e = 0
          · subst he
            have hD6 : Hid (strD b 7 = (s, at_ + n, 0)) := by show _ = _; rw [hD5.out, if_neg (by simp)]
            clear hD5
            go_enter Try.func84, Try.ntmps84
            go_wp2_with (first
              | (go_at_call 62; refine HRD.out.mono ?_; rintro e w2 ⟨rfl, nn, rfl⟩)
              | (refine wpList_val rfl (.slice A2 n (c - at_)) (HCUT.out _ _ _ _ _ _ _ _ rfl rfl rfl rfl rfl rfl) ?_)
              | (go_at_call 126; refine (HUN.out _ (HR2.out.fresh ((Frm.refl _ _).drewN nn))).mono ?_; rintro e w3 ⟨rfl, hF3⟩))
            go_ret3
            unfold RetS
            rw [hD6.out]
            exact ⟨rfl, Frm.trans ((Frm.refl _ _).drewN nn) (hF3.mono (fun k hk => by simpa [New] using hk))⟩
          · have hD6 : Hid (strD b 7 = ([], 0, e)) := by show _ = _; rw [hD5.out, if_pos he]
            have he2 : ((e : Int) == 0) = false := by rw [beq_eq_false_iff_ne]; omega
            clear hD5
            go_enter Try.func84, Try.ntmps84
            go_wp2_with (first
              | (go_at_call 62; refine HRD.out.mono ?_; rintro e w2 ⟨rfl, nn, rfl⟩)
              | (refine wpList_val rfl (.slice A2 n (c - at_)) (HCUT.out _ _ _ _ _ _ _ _ rfl rfl rfl rfl rfl rfl) ?_)
              | (go_at_call 126; refine (HUN.out _ (HR2.out.fresh ((Frm.refl _ _).drewN nn))).mono ?_; rintro e w3 ⟨rfl, hF3⟩))
            go_ret3
            unfold RetS
            rw [hD6.out]
            exact ⟨rfl, Frm.trans ((Frm.refl _ _).drewN nn) (hF3.mono (fun k hk => by simpa [New] using hk))⟩
end Go.Proofs.Ytdgggjeiflllhaa.M
