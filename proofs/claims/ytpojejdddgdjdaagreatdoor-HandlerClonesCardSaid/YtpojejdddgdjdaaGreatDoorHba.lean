/- The document's handler, its small functions: begins, read, key, allow. Strings below 2^40. The document's store, as it lies; at: where a key stands. No condition. The document's store: Clone. No condition. The document's Find and body. Bodies below 2^40. The document's body: some message. Bodies below 2^40. The document's sorted row of pairs against a map's entries: plain. No condition. -/
import Derived.BigQuiet
import Derived.Deep.CutBlock
import Derived.Lib.Hide
import Derived.IntWalk
import Derived.Test.YtpojejdddgdjdaaGreatDoorHak
import Derived.Test.YtpojejdddgdjdaaGreatDoorGin
import Derived.Sort.Walk0
import Derived.Sort.KeysCollected
import Derived.Test.YtpojejdddgdjdaaGreatDoorHaj
namespace Go.Proofs.YtpojejdddgdjdaaGreatDoor.M
open Go.ChangeShapes Go.WideShapes Go.ChangeAt Go.RowKit

set_option maxRecDepth 100000 in
set_option maxHeartbeats 2000000 in
theorem rkey_any (s : Bytes) (w : World) (hs : s.length ≤ 1099511627776) : Calls Tryz.prog 55 #[.string ⟨s.toArray⟩] w fun e w' => e = .returned (.bool (hKey s)) ∧ w = w' := by
  obtain ⟨res, hres⟩ : ∃ res, res = hKey s := ⟨_, rfl⟩
  rw [← hres]
  have HRES := Lib.hid hres
  clear hres
  go_enter Tryz.func55, Tryz.ntmps55
  go_upto_region 2 with (fail)
  go_loopw [3] (fun v3 wr => ∃ k : Nat, k ≤ s.length ∧ v3 = .int .i64 k ∧ Hid ((s.take k).all alnum = true) ∧ wr = w) (fun v3 _ => s.length - (intOf v3).toNat)
  case atStart => exact ⟨0, Nat.zero_le _, rfl, rfl, rfl⟩
  case round =>
    obtain ⟨k, hk, rfl, hall, rfl⟩ := hrel
    rename World => w
    by_cases hlt : k < s.length
    · have hno : alnum s[k] = false → s.all alnum = false := fun h => all_no _ _ _ hlt h
      have hyes : alnum s[k] = true → (s.take (k + 1)).all alnum = true := fun h => all_step _ _ _ hlt hall.out h
      have hkb : k < (⟨s.toArray⟩ : ByteArray).size := by simpa [ByteArray.size] using hlt
      have hsk : ((⟨s.toArray⟩ : ByteArray)[k]'hkb) = s[k] := rfl
      have hal : alnum s[k] = (decide (97 ≤ s[k].toNat ∧ s[k].toNat ≤ 122) || decide (48 ≤ s[k].toNat ∧ s[k].toNat ≤ 57)) := rfl
      have hc256 := s[k].toNat_lt
      have hfin : alnum s[k] = false → res = false := fun h => by
        rw [HRES.out]
        unfold hKey
        rw [hno h]
        simp
      have hlf : ∀ b : Bool, (res = b) → Ending.returned (.bool b) = Ending.returned (.bool res) := fun b h => by rw [h]
      by_cases h1 : 97 ≤ s[k].toNat ∧ s[k].toNat ≤ 122
      · have a1 : (97 : Int) ≤ s[k].toNat := by omega
        have a2 : (s[k].toNat : Int) ≤ 122 := by omega
        have hy := hyes (by rw [hal, decide_eq_true h1]; rfl)
        have HY := Lib.hid hy
        clear hy
        clear hno hyes hal hfin hlf
        go_wp2_with (fail)
        go_roundw
        case rel => exact ⟨k + 1, by omega, by go_num, HY, by first | rfl | trivial⟩
        case measure => simp [intOf]; omega
      · by_cases h2 : 48 ≤ s[k].toNat ∧ s[k].toNat ≤ 57
        · have a1 : ¬ (97 : Int) ≤ s[k].toNat := by omega
          have b1 : (48 : Int) ≤ s[k].toNat := by omega
          have b2 : (s[k].toNat : Int) ≤ 57 := by omega
          have hy := hyes (by rw [hal, decide_eq_true h2]; simp)
          have HY := Lib.hid hy
          clear hy
          clear hno hyes hal hfin hlf
          go_wp2_with (fail)
          go_roundw
          case rel => exact ⟨k + 1, by omega, by go_num, HY, by first | rfl | trivial⟩
          case measure => simp [intOf]; omega
        · have hr := hfin (by rw [hal, decide_eq_false h1, decide_eq_false h2]; rfl)
          have HR := Lib.hid hr
          clear hr
          clear hno hyes hal hfin hlf
          by_cases c1 : (97 : Int) ≤ s[k].toNat
          · have c2 : ¬ (s[k].toNat : Int) ≤ 122 := by omega
            have c3 : (48 : Int) ≤ s[k].toNat := by omega
            have c4 : ¬ (s[k].toNat : Int) ≤ 57 := by omega
            go_wp2_with (fail)
            go_ret
            exact ⟨by rw [HR.out]; rfl, rfl⟩
          · by_cases c3 : (48 : Int) ≤ s[k].toNat
            · have c4 : ¬ (s[k].toNat : Int) ≤ 57 := by omega
              go_wp2_with (fail)
              go_ret
              exact ⟨by rw [HR.out]; rfl, rfl⟩
            · go_wp2_with (fail)
              go_ret
              exact ⟨by rw [HR.out]; rfl, rfl⟩
    · obtain rfl : k = s.length := by omega
      have ha := hall.out
      rw [List.take_length] at ha
      have hr : res = (!s.isEmpty && decide (s.length ≤ 32)) := by
        rw [HRES.out]
        unfold hKey
        rw [ha]
        simp
      clear ha
      have HR := Lib.hid hr
      clear hr
      by_cases l1 : (1 : Int) ≤ s.length
      · have he : s.isEmpty = false := by
          cases s with
          | nil => simp at l1
          | cons c t => rfl
        by_cases l2 : (s.length : Int) ≤ 32
        · have e : res = true := by rw [HR.out, he, decide_eq_true (by omega)]; rfl
          have E := Lib.hid e
          have HE := Lib.hid he
          clear e he
          go_wp2_with (fail)
          go_ret
          exact ⟨by rw [E.out]; rfl, rfl⟩
        · have e : res = false := by rw [HR.out, he, decide_eq_false (by omega)]; rfl
          have E := Lib.hid e
          have HE := Lib.hid he
          clear e he
          go_wp2_with (fail)
          go_ret
          exact ⟨by rw [E.out]; rfl, rfl⟩
      · have e : res = false := by
          have : s = [] := List.eq_nil_of_length_eq_zero (by omega)
          subst this
          rw [HR.out]
          rfl
        have E := Lib.hid e
        clear e
        go_wp2_with (fail)
        go_ret
        exact ⟨by rw [E.out]; rfl, rfl⟩
set_option maxRecDepth 100000 in
set_option maxHeartbeats 2000000 in
theorem begins_any (s p : Bytes) (w : World) : Calls Tryz.prog 31 #[.string ⟨s.toArray⟩, .string ⟨p.toArray⟩] w fun e w' => e = .returned (.bool (Lib.hasPrefix s p)) ∧ w = w' := by
  by_cases hl : p.length ≤ s.length
  · have hli : (p.length : Int) ≤ s.length := by omega
    have hx : Lib.hasPrefix s p = decide (s.take p.length = p) := by
      unfold Lib.hasPrefix
      by_cases he : s.take p.length = p
      · rw [decide_eq_true he]
        exact List.isPrefixOf_iff_prefix.2 (List.prefix_iff_eq_take.2 he.symm)
      · rw [decide_eq_false he]
        cases h : p.isPrefixOf s with
        | false => rfl
        | true => exact absurd (List.prefix_iff_eq_take.1 (List.isPrefixOf_iff_prefix.1 h)).symm he
    have hex : (⟨s.toArray⟩ : ByteArray).extract 0 p.length = ⟨(s.take p.length).toArray⟩ := by
      apply ByteArray.ext
      simp
    by_cases he : s.take p.length = p
    · have hq : Lib.hasPrefix s p = true := by rw [hx, decide_eq_true he]
      rw [he] at hex
      have HQ := Lib.hid hq
      have HX := Lib.hid hx
      have HE := Lib.hid he
      clear hq hx he
      go_enter Tryz.func31, Tryz.ntmps31
      go_wp2_with (fail)
      go_ret
      exact ⟨by rw [HQ.out]; rfl, rfl⟩
    · have hq : Lib.hasPrefix s p = false := by rw [hx, decide_eq_false he]
      have he1 : (s.take p.length == p) = false := beq_eq_false_iff_ne.2 he
      have he2 : ¬ s.take p.length = p := he
      have HQ := Lib.hid hq
      have HX := Lib.hid hx
      clear hq hx
      clear he
      go_enter Tryz.func31, Tryz.ntmps31
      go_wp2_with (fail)
      go_ret
      exact ⟨by rw [HQ.out]; rfl, rfl⟩
  · have hli : ¬ (p.length : Int) ≤ s.length := by omega
    have hq : Lib.hasPrefix s p = false := by
      cases h : Lib.hasPrefix s p with
      | false => rfl
      | true =>
        have h2 := List.isPrefixOf_iff_prefix.1 h
        exact absurd h2.length_le hl
    have HQ := Lib.hid hq
    clear hq
    go_enter Tryz.func31, Tryz.ntmps31
    go_wp2_with (fail)
    go_ret
    exact ⟨by rw [HQ.out]; rfl, rfl⟩
set_option maxRecDepth 100000 in
set_option maxHeartbeats 2000000 in
theorem rread_any (r : RV) (w : World) : Calls Tryz.prog 32 #[.agg r.cells] w fun e w' => e = .returned (.bool (hReads r.me)) ∧ Frm (New w) w w' := by
  obtain ⟨me, sc, au, pa, A1, c1, fs, A2, c2, b, A3, c3, ts⟩ := r
  simp only [RV.cells]
  have hF := (Frm.refl (New w) w).alloc Up.new (.cells #[.string ⟨me.toArray⟩, .string ⟨sc.toArray⟩, .string ⟨au.toArray⟩, .string ⟨pa.toArray⟩, .slice A1 fs.length c1, .slice A2 b.length c2, .slice A3 ts.length c3] 32)
  have HF := Lib.hid hF
  clear hF
  by_cases h1 : me = bGET
  · subst h1
    go_enter Tryz.func32, Tryz.ntmps32
    go_wp2_with (fail)
    go_ret
    exact ⟨rfl, HF.out⟩
  · by_cases h2 : me = bHEAD
    · subst h2
      go_enter Tryz.func32, Tryz.ntmps32
      go_wp2_with (fail)
      go_ret
      exact ⟨rfl, HF.out⟩
    · have hq : hReads me = false := by unfold hReads; rw [decide_eq_false h1, decide_eq_false h2]; rfl
      have a1 : (me == [71, 69, 84]) = false := beq_eq_false_iff_ne.2 h1
      have a2 : ¬ me = [71, 69, 84] := h1
      have b1 : (me == [72, 69, 65, 68]) = false := beq_eq_false_iff_ne.2 h2
      have b2 : ¬ me = [72, 69, 65, 68] := h2
      clear h1 h2
      have HQ := Lib.hid hq
      clear hq
      go_enter Tryz.func32, Tryz.ntmps32
      go_wp2_with (fail)
      go_ret
      exact ⟨by rw [HQ.out]; rfl, HF.out⟩
/-- some message -/
def RAny (w : World) (e : Ending) (w' : World) : Prop := ∃ (A1 A2 A3 : Option Addr) (n1 n2 n3 c1 c2 c3 : Nat), e = .returned (.agg #[.slice A1 n1 c1, .slice A2 n2 c2, .slice A3 n3 c3]) ∧ Frm (New w) w w'
theorem AnR.any {w w' : World} {a : An} {e : Ending} (h : AnR w a e w') : RAny w e w' := by
  obtain ⟨m, rfl, hm⟩ := h
  exact ⟨_, _, _, _, _, _, _, _, _, rfl, hm.frm⟩
theorem RaR.any {w w' : World} {fs : List Fld} {A2 A3 : Option Addr} {n2 n3 c2 c3 : Nat} {e : Ending} (h : RaR w fs (.slice A2 n2 c2) (.slice A3 n3 c3) e w') : RAny w e w' := by
  obtain ⟨A1, c1, rfl, _, _, hF⟩ := h
  exact ⟨_, _, _, _, _, _, _, _, _, rfl, hF⟩
set_option maxRecDepth 100000 in
set_option maxHeartbeats 2000000 in
theorem rallow_any (st : Nat) (hst : st ≤ 999) (a : Bytes) (w : World) : Calls Tryz.prog 33 #[.int .i64 (st : Int), .string ⟨a.toArray⟩] w (RAny w) := by
  have hc : ∀ (w' : World) (g : Option Addr) (d : Nat), Rd w' g (fvs [(bAllow, a)]) → Calls Tryz.prog 36 #[.int .i64 (st : Int), .int .i64 0, .slice none 0 0, .slice g 1 d, .slice none 0 0] w' (RAny w') := fun w' g d h => (ranswer_any st 0 hst (Nat.zero_le _) none 0 0 g d [(bAllow, a)] none 0 0 w' h (by simp)).mono (fun e w2 h => h.any)
  have hfr : ∀ (w : World) t cs, Frm (New w) w (w.alloc (.cells cs t)) := fun w t cs => (Frm.refl _ w).alloc Up.new _
  have HC := Lib.hid hc
  have HFR := Lib.hid hfr
  clear hc hfr
  go_enter Tryz.func33, Tryz.ntmps33
  go_upto_region 1 with (refine wpList_new rfl rfl zMsg rfl ?_; intro w1 hb1 hF1 hs1)
  obtain ⟨g, hg⟩ : ∃ g, g = w.heap.size := ⟨_, rfl⟩
  rw [← hg] at hb1 ⊢
  have hgw : w.heap.size ≤ g := by omega
  clear hg hs1
  have hR2 : Rd (w1.alloc (.cells #[.string ⟨#[97, 108, 108, 111, 119]⟩, .string ⟨a.toArray⟩] 38)) (some ⟨w1.heap.size, 0, none⟩) (fvs [(bAllow, a)]) := Rd.new w1 #[.string ⟨#[97, 108, 108, 111, 119]⟩, .string ⟨a.toArray⟩] 38
  have hF12 := HFR.out w1 38 #[.string ⟨#[97, 108, 108, 111, 119]⟩, .string ⟨a.toArray⟩]
  have hF2 := hF1.then_new Up.new hF12
  have hc2 := HC.out _ _ 1 hR2
  have hb2 := hb1.fresh hF12
  clear hR2 hF12 hF1 hb1 HC
  have HC2 := Lib.hid hc2
  have HB2 := Lib.hid hb2
  have HF2 := Lib.hid hF2
  clear hc2 hb2 hF2
  go_wp2_with (fail)
  generalize w1.alloc (.cells #[.string ⟨#[97, 108, 108, 111, 119]⟩, .string ⟨a.toArray⟩] 38) = w2 at *
  refine HC2.out.mono ?_
  rintro e w3 ⟨A1, A2, A3, n1, n2, n3, c1, c2, c3, rfl, hF3⟩
  have hb3 := HB2.out.fresh hF3
  have HB3 := Lib.hid hb3
  clear hb3
  go_wp2_with (refine wpList_store_agg rfl rfl rfl rfl HB3.out rfl (msg_one _ _ _ _ _ _ _ _ _) (by kernel_rfl) ?_; intro w4 hb4 hF4 hs4)
  refine bodyPost_ret (results_agg agM rfl rfl hb4 rfl) rfl ?_
  exact ⟨_, _, _, _, _, _, _, _, _, rfl, (HF2.out.then_new Up.new hF3).trans (hF4.mono (fun k hk => by subst hk; exact hgw))⟩
end Go.Proofs.YtpojejdddgdjdaaGreatDoor.M
namespace Go.Proofs.YtpojejdddgdjdaaGreatDoor.M
open Go.ChangeShapes Go.WideShapes Go.ChangeAt Go.RowKit

def pcl (x : Bytes × SV) : List Value := [str x.1, x.2.v]
/-- the document's store: pairs in a row -/
structure RAt (w : World) (p : Nat) (A : Option Addr) (c : Nat) (L : List (Bytes × SV)) : Prop where
  blk : Blk w p 48 #[.slice A L.length c]
  app : App (fun q => M.blk A = some q ∨ New w q) w 90 2 A L.length c (L.flatMap pcl)
  far : M.blk A ≠ some p
  val : ∀ x ∈ L, Rd w x.2.A (bvs x.2.b)
  vfar : ∀ x ∈ L, bvs x.2.b ≠ [] → M.blk x.2.A ≠ some p
  nd : (L.map (·.1)).Pairwise (· < ·)
  len : L.length ≤ 64
  small : ∀ x ∈ L, x.2.b.length ≤ 1099511627776
  klen : ∀ x ∈ L, x.1.length ≤ 32
  row : ∀ k, M.blk A = some k → ∃ cs t f, w.heap[k]? = some (.cells cs t f)
theorem pair_cells {w : World} {g off : Nat} {L : List (Bytes × SV)} (h : Rd w (some ⟨g, off, none⟩) (L.flatMap pcl)) (i : Nat) (hi : i < L.length) :
    w.cell? ⟨g, off + i * 2, none⟩ = some (str L[i].1) ∧ w.cell? ⟨g, off + i * 2 + 1, none⟩ = some (L[i].2.v) := by
  have key := elem_cells pcl 2 (fun _ => rfl) h i hi
  exact ⟨key 0 _ (by omega) rfl, key 1 _ (by omega) rfl⟩
/-- how many keys stand ahead -/
def before {α : Type} (k : Bytes) (L : List (Bytes × α)) : Nat := (L.takeWhile (fun x => Op.bytesLess x.1 k)).length
theorem before_at {k : Bytes} {L : List (Bytes × SV)} {i : Nat} (h : (L.take i).all (fun x => Op.bytesLess x.1 k) = true) (hi : i ≤ L.length) (hn : ∀ hlt : i < L.length, Op.bytesLess (L[i]'hlt).1 k = false) : before k L = i := by
  unfold before
  have e : L = L.take i ++ L.drop i := (List.take_append_drop i L).symm
  rw [e, List.takeWhile_append_of_pos (fun x hx => List.all_eq_true.1 h x hx)]
  have h2 : (L.drop i).takeWhile (fun x => Op.bytesLess x.1 k) = [] := by
    cases hd : L.drop i with
    | nil => rfl
    | cons x r =>
      have hlt : i < L.length := by
        have := congrArg List.length hd
        rw [List.length_drop, List.length_cons] at this
        omega
      have hx : L[i]'hlt = x := by
        have := List.getElem_drop (xs := L) (i := i) (j := 0) (h := by rw [hd]; simp)
        simp only [hd, List.getElem_cons_zero, Nat.add_zero] at this
        exact this.symm
      rw [List.takeWhile_cons, ← hx, hn hlt]
      rfl
  rw [h2, List.append_nil, List.length_take]
  omega
set_option maxRecDepth 100000 in
set_option maxHeartbeats 4000000 in
theorem at_any_ (k : Bytes) (w : World) (p : Nat) (A : Option Addr) (c : Nat) (L : List (Bytes × SV)) (h : RAt w p A c L) :
    Calls Tryz.prog 56 #[.pointer (some ⟨p, 0, none⟩), .string ⟨k.toArray⟩] w fun e w' => e = .returned (.tuple #[.int .i64 (before k L : Nat), .bool (decide ((L.map (·.1))[before k L]? = some k))]) ∧ ∃ q, w' = w.drewN q := by
  have hp0 := h.blk.cell 0
  simp only [List.getElem?_toArray, List.getElem?_cons_zero] at hp0
  have hlp := h.blk.lt
  have hR := h.app.rd
  have hll := h.len
  obtain ⟨bi, hbi⟩ : ∃ bi, bi = before k L := ⟨_, rfl⟩
  obtain ⟨bo, hbo⟩ : ∃ bo, bo = decide ((L.map (·.1))[bi]? = some k) := ⟨_, rfl⟩
  rw [← hbi, ← hbo]
  have HR := Lib.hid hR
  have HBI := Lib.hid hbi
  have HBO := Lib.hid hbo
  clear hR hbi hbo
  go_enter Tryz.func56, Tryz.ntmps56
  go_upto_region 2 with (fail)
  go_loopw [6] (fun v6 wr => ∃ i : Nat, i ≤ L.length ∧ v6 = .int .i64 i ∧ Hid ((L.take i).all (fun x => Op.bytesLess x.1 k) = true) ∧ wr = w) (fun v6 _ => L.length - (intOf v6).toNat)
  case atStart => exact ⟨0, Nat.zero_le _, rfl, rfl, rfl⟩
  case round =>
    obtain ⟨i, hi, rfl, hall, rfl⟩ := hrel
    rename World => w
    by_cases hlt : i < L.length
    · obtain ⟨g, off, rfl, hx⟩ := HR.out.at_ (k := i * 2) (by rw [flatL_length pcl 2 (fun _ => rfl)]; omega)
      clear hx
      obtain ⟨hc0, _⟩ := pair_cells HR.out i hlt
      simp only [str] at hc0
      have hg := World.block_lt_of_cell? _ _ hc0
      simp only at hg
      have hst : Op.bytesLess L[i].1 k = true → (L.take (i + 1)).all (fun x => Op.bytesLess x.1 k) = true := fun hh => lall_step _ _ _ hlt hall.out hh
      have hbe : Op.bytesLess L[i].1 k = false → before k L = i := fun hh => before_at hall.out hi (fun _ => hh)
      have hget : (L.map (·.1))[i]? = some L[i].1 := by rw [List.getElem?_map, List.getElem?_eq_getElem hlt]; rfl
      generalize L[i].1 = s at *
      cases hbl : Op.bytesLess s k with
      | true =>
        have hs := hst hbl
        clear hst hbe
        have HS := Lib.hid hs
        have HGET := Lib.hid hget
        clear hs hget
        go_wp2_with (fail)
        go_roundw
        case rel => exact ⟨i + 1, by omega, by go_num, HS, by first | rfl | trivial⟩
        case measure => simp [intOf]; omega
      | false =>
        have hb : bi = i := HBI.out.trans (hbe hbl)
        have hbo2 : bo = decide (s = k) := by
          rw [HBO.out, hb, hget]
          by_cases hh : s = k
          · rw [decide_eq_true hh, hh]; simp
          · rw [decide_eq_false hh]; simp [hh]
        clear hst hbe hget HBO HBI
        have HB := Lib.hid hb
        have HBO2 := Lib.hid hbo2
        clear hb hbo2
        by_cases hsk : s = k
        · have e : bo = true := by rw [HBO2.out, decide_eq_true hsk]
          subst hsk
          have E := Lib.hid e
          clear e
          go_wp2_with (fail)
          go_quiet (fail)
          go_wp2_with (fail)
          go_ret2
          exact ⟨by rw [HB.out, E.out]; rfl, _, rfl⟩
        · have e : bo = false := by rw [HBO2.out, decide_eq_false hsk]
          have n1 : (s == k) = false := beq_eq_false_iff_ne.2 hsk
          have E := Lib.hid e
          clear e
          go_wp2_with (fail)
          go_quiet (fail)
          go_wp2_with (fail)
          go_ret2
          exact ⟨by rw [HB.out, E.out]; rfl, _, rfl⟩
    · obtain rfl : i = L.length := by omega
      have hb : bi = L.length := HBI.out.trans (before_at hall.out hi (fun hh => absurd hh hlt))
      have e : bo = false := by
        rw [HBO.out, hb, List.getElem?_eq_none (by rw [List.length_map]; exact Nat.le_refl _)]
        simp
      clear HBI HBO
      have HB := Lib.hid hb
      have E := Lib.hid e
      clear hb e
      go_wp2_with (fail)
      go_quiet (fail)
      go_wp2_with (fail)
      go_ret2
      exact ⟨by rw [HB.out, E.out]; rfl, _, rfl⟩
/-- what stands under a key -/
def rgot (k : Bytes) (L : List (Bytes × SV)) : Option SV := (L[before k L]?).bind (fun x => if x.1 = k then some x.2 else none)
set_option maxRecDepth 100000 in
set_option maxHeartbeats 4000000 in
theorem rget_any (k : Bytes) (w : World) (p : Nat) (A : Option Addr) (c : Nat) (L : List (Bytes × SV)) (h : RAt w p A c L) :
    Calls Tryz.prog 40 #[.pointer (some ⟨p, 0, none⟩), .string ⟨k.toArray⟩] w fun e w' => e = .returned (.tuple #[((rgot k L).map SV.v).getD (.slice none 0 0), .bool (rgot k L).isSome]) ∧ ∃ q, w' = w.drewN q := by
  have hat := at_any_ k w p A c L h
  have hp0 := h.blk.cell 0
  simp only [List.getElem?_toArray, List.getElem?_cons_zero] at hp0
  have hlp := h.blk.lt
  obtain ⟨bi, hbi⟩ : ∃ bi, bi = before k L := ⟨_, rfl⟩
  obtain ⟨g0, hg0⟩ : ∃ g0, g0 = rgot k L := ⟨_, rfl⟩
  have hg1 := hg0
  unfold rgot at hg1
  rw [← hbi] at hat hg1
  rw [← hg0]
  rw [List.getElem?_map] at hat
  clear hg0 hbi
  by_cases hlt : bi < L.length
  · rw [List.getElem?_eq_getElem hlt] at hat hg1
    obtain ⟨g, off, rfl, hx⟩ := h.app.rd.at_ (k := bi * 2) (by rw [flatL_length pcl 2 (fun _ => rfl)]; omega)
    clear hx
    obtain ⟨_, hc1⟩ := pair_cells h.app.rd bi hlt
    have hg := World.block_lt_of_cell? _ _ hc1
    simp only at hg
    generalize L[bi] = x at *
    obtain ⟨xk, xA, xc, xb⟩ := x
    simp only [SV.v] at hc1
    simp only [Option.map_some, Option.bind_some, Option.some.injEq] at hat hg1
    by_cases hk : xk = k
    · rw [decide_eq_true hk] at hat
      rw [if_pos hk] at hg1
      subst hg1
      clear h hk
      have HAT := Lib.hid hat
      clear hat
      go_enter Tryz.func40, Tryz.ntmps40
      go_wp2_with (go_at_call 56; refine HAT.out.mono ?_; rintro e w2 ⟨rfl, q, rfl⟩)
      go_ret2
      exact ⟨rfl, q, rfl⟩
    · rw [decide_eq_false hk] at hat
      rw [if_neg hk] at hg1
      subst hg1
      clear h hk
      have HAT := Lib.hid hat
      clear hat
      go_enter Tryz.func40, Tryz.ntmps40
      go_wp2_with (go_at_call 56; refine HAT.out.mono ?_; rintro e w2 ⟨rfl, q, rfl⟩)
      go_ret2
      exact ⟨rfl, q, rfl⟩
  · rw [List.getElem?_eq_none (by omega)] at hat hg1
    simp only [Option.map_none, Option.bind_none] at hat hg1
    rw [decide_eq_false (by simp)] at hat
    subst hg1
    clear h
    have HAT := Lib.hid hat
    clear hat
    go_enter Tryz.func40, Tryz.ntmps40
    go_wp2_with (go_at_call 56; refine HAT.out.mono ?_; rintro e w2 ⟨rfl, q, rfl⟩)
    go_ret2
    exact ⟨rfl, q, rfl⟩
def RKR (w : World) (L : List (Bytes × SV)) (e : Ending) (w' : World) : Prop := ∃ A' c', e = .returned (.slice A' L.length c') ∧ Rd w' A' (svs (L.map (·.1))) ∧ Frm (New w) w w'
set_option maxRecDepth 100000 in
set_option maxHeartbeats 4000000 in
theorem rkeys_any (w : World) (p : Nat) (A : Option Addr) (c : Nat) (L : List (Bytes × SV)) (h : RAt w p A c L) :
    Calls Tryz.prog 39 #[.pointer (some ⟨p, 0, none⟩)] w (RKR w L) := by
  have hbk := h.blk
  have hR := h.app.rd
  have hll := h.len
  clear h
  have HR := Lib.hid hR
  have HBK := Lib.hid hbk
  clear hR hbk
  go_enter Tryz.func39, Tryz.ntmps39
  go_upto_region 3 with (fail)
  go_loopw [3, 4] (fun v3 v4 wr => ∃ (i : Nat) (B : Option Addr) (d : Nat), i ≤ L.length ∧ v4 = .int .i64 i ∧ v3 = .slice B i d ∧ Hid (App (New w) wr 9 1 B i d (svs ((L.map (·.1)).take i))) ∧ Hid (Frm (New w) w wr)) (fun _ v4 _ => L.length - (intOf v4).toNat)
  case atStart => exact ⟨0, none, 0, Nat.zero_le _, rfl, rfl, Lib.hid App.none_, Lib.hid (Frm.refl _ _)⟩
  case round =>
    obtain ⟨i, B, d, hi, rfl, rfl, hA, hF⟩ := hrel
    rename World => wr
    have hb := HBK.out.fresh hF.out
    have hp0 := hb.cell 0
    simp only [List.getElem?_toArray, List.getElem?_cons_zero] at hp0
    have hlp := hb.lt
    clear hb
    by_cases hlt : i < L.length
    · have hRd := HR.out.fresh hF.out
      obtain ⟨g, off, rfl, hx⟩ := hRd.at_ (k := i * 2) (by rw [flatL_length pcl 2 (fun _ => rfl)]; omega)
      clear hx
      obtain ⟨hc0, _⟩ := pair_cells hRd i hlt
      simp only [str] at hc0
      have hg := World.block_lt_of_cell? _ _ hc0
      simp only at hg
      have htk : (L.map (·.1)).take (i + 1) = (L.map (·.1)).take i ++ [L[i].1] := by
        rw [List.take_succ_eq_append_getElem (by rw [List.length_map]; exact hlt), List.getElem_map]
      generalize L[i].1 = s at *
      have hU : Up (New w) wr := Up.new.frm hF.out
      have hsv : svs ((L.map (·.1)).take i) ++ [.string ⟨s.toArray⟩] = svs ((L.map (·.1)).take (i + 1)) := by
        rw [htk]; unfold svs; rw [List.map_append]; rfl
      clear hRd htk
      have HU := Lib.hid hU
      have HSV := Lib.hid hsv
      clear hU hsv
      go_wp2_with (at_builtin; refine wpList_append_lit strs rfl rfl rfl hA.out HU.out rfl rfl (fun u hu => by simp at hu; subst hu; rfl) (by omega) ?_; intro A9 c9 w9 hA9 hF9 _ _; have HA9 := Lib.hid hA9; have HF9 := Lib.hid (hF.out.trans hF9); clear hA9 hF9)
      have hA9 := HA9.out
      rw [HSV.out] at hA9
      have HB9 := Lib.hid hA9
      clear hA9
      clear HA9
      go_roundw
      case rel => exact ⟨i + 1, A9, c9, by omega, by go_num, rfl, HB9, HF9⟩
      case measure => simp [intOf]; omega
    · obtain rfl : i = L.length := by omega
      have hA2 := hA.out.rd
      rw [List.take_of_length_le (by rw [List.length_map]; exact Nat.le_refl _)] at hA2
      have hF2 := hF.out
      have HA2 := Lib.hid hA2
      have HF2 := Lib.hid hF2
      clear hA2 hF2
      clear hA hF
      go_wp2_with (fail)
      go_ret
      exact ⟨B, d, rfl, HA2.out, HF2.out⟩
end Go.Proofs.YtpojejdddgdjdaaGreatDoor.M
namespace Go.Proofs.YtpojejdddgdjdaaGreatDoor.M
open Go.ChangeShapes Go.WideShapes Go.ChangeAt Go.RowKit

theorem App.self {M : Nat → Prop} {w : World} {e size n c : Nat} {A : Option Addr} {xs : List Value} (h : App M w e size A n c xs) : App (fun q => Go.Proofs.YtpojejdddgdjdaaGreatDoor.M.blk A = some q ∨ New w q) w e size A n c xs :=
  { h with
    inM := fun k hk => .inl hk
    own := fun h0 => by
      obtain ⟨g, off, cur, a, b, d, _⟩ := h.own h0
      exact ⟨g, off, cur, a, b, d, .inl (by rw [a]; rfl)⟩ }
theorem pairs : Elem Tryz.prog 46 90 2 40 :=
  ⟨by kernel_rfl, by
    have h : (Tryz.prog.info? 90).map (fun i => (i.zero, i.size, i.bytes)) = some (some (.agg #[.string ByteArray.empty, .slice none 0 0]), 2, 40) := by kernel_rfl
    obtain ⟨i, hi, hz, hs, hb⟩ := info_parts h
    exact ⟨i, _, hi, hz, hs, hb, rfl⟩, by omega, by omega⟩
theorem pcl_one (L : List (Bytes × SV)) : ∀ u ∈ L.flatMap pcl, u.oneCell' = true := fun u hu => by
  obtain ⟨x, _, hx⟩ := List.mem_flatMap.1 hu
  simp only [pcl, List.mem_cons, List.not_mem_nil, or_false] at hx
  rcases hx with rfl | rfl <;> rfl
theorem pcl_length (L : List (Bytes × SV)) : (L.flatMap pcl).length = L.length * 2 := flatL_length pcl 2 (fun _ => rfl) L
def RCR (w : World) (L : List (Bytes × SV)) (e : Ending) (w' : World) : Prop := ∃ p A c, e = .returned (.pointer (some ⟨p, 0, none⟩)) ∧ RAt w' p A c L ∧ w.heap.size ≤ p ∧ Frm (New w) w w'
set_option maxRecDepth 100000 in
set_option maxHeartbeats 4000000 in
theorem rclone_any (w : World) (p : Nat) (A : Option Addr) (c : Nat) (L : List (Bytes × SV)) (h : RAt w p A c L) :
    Calls Tryz.prog 19 #[.pointer (some ⟨p, 0, none⟩)] w (RCR w L) := by
  have hp0 := h.blk.cell 0
  simp only [List.getElem?_toArray, List.getElem?_cons_zero] at hp0
  have hlp := h.blk.lt
  have hR := h.app.rd
  have hll := h.len
  have HR := Lib.hid hR
  have H := Lib.hid h
  clear hR h
  go_enter Tryz.func19, Tryz.ntmps19
  go_wp2_with (at_builtin; refine wpList_append pairs rfl rfl rfl App.none_ Up.new rfl HR.out (pcl_length L) (pcl_one L) (by omega) ?_; intro A9 c9 w9 hA9 hF9 hdis _; rw [List.nil_append, Nat.zero_add] at hA9; have HDIS := Lib.hid hdis; clear hdis; have HA9 := Lib.hid hA9; have HF9 := Lib.hid hF9; clear hA9 hF9)
  go_ret
  have h9 := HF9.out
  have hFa : Frm (New w9) w9 (w9.alloc (.cells #[.slice A9 L.length c9] 48)) := (Frm.refl _ w9).alloc Up.new _
  have hval : ∀ x ∈ L, Rd w9 x.2.A (bvs x.2.b) := fun x hx => (H.out.val x hx).fresh h9
  have hfar : blk A9 ≠ some w9.heap.size := fun e => by
    rcases HDIS.out with ⟨h1, _⟩ | ⟨h1, h2⟩
    · rw [h1] at e
      cases e
    · have hne : L.flatMap pcl ≠ [] := fun hn => by
        have := pcl_length L
        rw [hn] at this
        simp at this
        omega
      have := HA9.out.rd.blk_lt hne e
      omega
  refine ⟨w9.heap.size, A9, c9, rfl, ⟨Blk.new w9 _ _, (HA9.out.fresh hFa).self, hfar, fun x hx => (hval x hx).fresh hFa, fun x hx hn e => ?_, H.out.nd, hll, H.out.small, H.out.klen, fun k hk => ?_⟩, h9.size, h9.then_new Up.new hFa⟩
  · have := (hval x hx).blk_lt hn e
    omega
  · rcases HDIS.out with ⟨h1, _⟩ | ⟨h1, h2⟩
    · rw [h1] at hk
      cases hk
    · have := HA9.out.cap
      obtain ⟨g, off, cur, rfl, hg, _⟩ := (HA9.out.fresh hFa).own (by omega)
      cases hk
      exact ⟨_, _, _, hg⟩
end Go.Proofs.YtpojejdddgdjdaaGreatDoor.M
namespace Go.Proofs.YtpojejdddgdjdaaGreatDoor.M
open Go.ChangeShapes Go.WideShapes Go.ChangeAt Go.RowKit

def FiR (w : World) (F : List Bytes) (e : Ending) (w' : World) : Prop := ∃ A' c', e = .returned (.slice A' F.length c') ∧ Rd w' A' (svs F) ∧ Frm (New w) w w'
set_option maxRecDepth 100000 in
set_option maxHeartbeats 4000000 in
theorem rfind_any (l : List Fld) (A : Option Addr) (c : Nat) (nm : Bytes) (w : World) (hR : Rd w A (fvs l)) (hl : l.length ≤ 1099511627776) :
    Calls Tryz.prog 35 #[.slice A l.length c, .string ⟨nm.toArray⟩] w (FiR w (findF l nm)) := by
  have HR := Lib.hid hR
  clear hR
  have hfl : ∀ k, (findF (l.take k) nm).length ≤ l.length := fun k => by
    unfold findF
    rw [List.length_map]
    exact Nat.le_trans (List.length_filter_le _ _) (by rw [List.length_take]; omega)
  have HFL := Lib.hid hfl
  clear hfl
  go_enter Tryz.func35, Tryz.ntmps35
  go_upto_region 3 with (fail)
  go_loopw [5, 6] (fun v5 v6 wr => ∃ (k : Nat) (B : Option Addr) (d : Nat), k ≤ l.length ∧ v6 = .int .i64 k ∧ v5 = .slice B (findF (l.take k) nm).length d ∧ Hid (App (New w) wr 9 1 B (findF (l.take k) nm).length d (svs (findF (l.take k) nm))) ∧ Hid (Frm (New w) w wr)) (fun _ v6 _ => l.length - (intOf v6).toNat)
  case atStart => exact ⟨0, none, 0, Nat.zero_le _, rfl, rfl, Lib.hid App.none_, Lib.hid (Frm.refl _ _)⟩
  case round =>
    obtain ⟨k, B, d, hk, rfl, rfl, hA, hF⟩ := hrel
    rename World => wr
    by_cases hlt : k < l.length
    · have hRd := HR.out.fresh hF.out
      obtain ⟨g, off, rfl, hx⟩ := hRd.at_ (k := k * 2) (by rw [fvs_length]; omega)
      have hg := World.block_lt_of_cell? _ _ hx
      simp only at hg
      clear hx
      obtain ⟨hc1, hc2⟩ := fld_cells hRd k hlt
      have htk : l.take (k + 1) = l.take k ++ [l[k]] := List.take_succ_eq_append_getElem hlt
      have hsn := findF_snoc (l.take k) l[k] nm
      rw [← htk] at hsn
      have hln := HFL.out k
      generalize l[k] = f at *
      obtain ⟨a, b⟩ := f
      simp only [str] at hc1 hc2 hsn
      generalize findF (l.take k) nm = F at *
      generalize hF2 : findF (l.take (k + 1)) nm = F2 at *
      generalize hn : F.length = n at *
      have hU : Up (New w) wr := Up.new.frm hF.out
      have HSN := Lib.hid hsn
      have HRD := Lib.hid hRd
      have HN := Lib.hid hn
      have HF2 := Lib.hid hF2
      have HU := Lib.hid hU
      clear hsn hRd hn hF2 hU
      by_cases hab : a = nm
      · subst hab
        have hs2 := HSN.out
        rw [if_pos rfl] at hs2
        have HS2 := Lib.hid hs2
        clear hs2
        go_wp2_with (at_builtin; refine wpList_append_lit strs rfl rfl rfl hA.out HU.out rfl rfl (fun u hu => by simp at hu; subst hu; rfl) (by omega) ?_; intro A9 c9 w9 hA9 hF9 _ _; have HA9 := Lib.hid hA9; have HF9 := Lib.hid (hF.out.trans hF9); clear hA9 hF9)
        have hA9 := HA9.out
        have e9 : svs F ++ [.string ⟨b.toArray⟩] = svs F2 := by rw [HS2.out]; unfold svs; rw [List.map_append]; rfl
        have el : n + 1 = F2.length := by rw [HS2.out, List.length_append, HN.out]; rfl
        rw [e9, el] at hA9
        have HB9 := Lib.hid hA9
        clear hA9
        clear HA9
        go_roundw
        case rel => exact ⟨k + 1, A9, c9, by omega, by go_num, by rw [HF2.out, el], Lib.hid (by rw [HF2.out]; exact HB9.out), HF9⟩
        case measure => simp [intOf]; omega
      · have hab1 : (a == nm) = false := beq_eq_false_iff_ne.2 hab
        have hs2 := HSN.out
        rw [if_neg hab, List.append_nil] at hs2
        have HS2 := Lib.hid hs2
        clear hs2
        go_wp2_with (fail)
        go_roundw
        case rel => exact ⟨k + 1, B, d, by omega, by go_num, by rw [HF2.out, HS2.out, HN.out], Lib.hid (by rw [HF2.out, HS2.out, HN.out]; exact hA.out), hF⟩
        case measure => simp [intOf]; omega
    · obtain rfl : k = l.length := by omega
      have hA2 := hA.out.rd
      rw [List.take_length] at hA2 ⊢
      have hF2 := hF.out
      have HA2 := Lib.hid hA2
      have HF2 := Lib.hid hF2
      clear hA2 hF2
      clear hA hF
      go_wp2_with (fail)
      go_ret
      exact ⟨B, d, rfl, HA2.out, HF2.out⟩
end Go.Proofs.YtpojejdddgdjdaaGreatDoor.M
namespace Go.Proofs.YtpojejdddgdjdaaGreatDoor.M
open Go.ChangeShapes Go.WideShapes Go.ChangeAt Go.RowKit
set_option maxRecDepth 100000 in
set_option maxHeartbeats 4000000 in
theorem rbody_any (r : RV) (B : Option Addr) (n d : Nat) (C : Option Addr) (e0 : Nat) (more : List Fld) (w : World) (hM : Rd w C (fvs more)) (hm : more.length ≤ 1099511627776) (hn : n ≤ 1099511627776) :
    Calls Tryz.prog 34 #[.agg r.cells, .slice B n d, .slice C more.length e0] w (RAny w) := by
  obtain ⟨me, sc, au, pa, A1, c1, fs, A2, c2, b, A3, c3, ts⟩ := r
  simp only [RV.cells] at *
  have hfr : ∀ (w : World) t cs, Frm (New w) w (w.alloc (.cells cs t)) := fun w t cs => (Frm.refl _ w).alloc Up.new _
  have hs1 : ∀ (w : World) (t : TypeId) cs, (w.alloc (.cells cs t)).heap.size = w.heap.size + 1 := fun w t cs => by simp
  have han : ∀ (X : Option Addr) (xn xd : Nat) (w' : World), Frm (New w) w w' → Calls Tryz.prog 36 #[.int .i64 200, .int .i64 (n : Int), .slice X xn xd, .slice C more.length e0, .slice none 0 0] w' (RAny w') := fun X xn xd w' f => (ranswer_any 200 n (by decide) hn X xn xd C e0 more none 0 0 w' (hM.fresh f) hm).mono (fun e w2 h => h.any)
  have HFR := Lib.hid hfr
  have HS1 := Lib.hid hs1
  have HAN := Lib.hid han
  clear hfr hs1 han
  by_cases hme : me = bHEAD
  · subst hme
    obtain ⟨CA, hCA⟩ : ∃ CA, CA = (#[.string ⟨bHEAD.toArray⟩, .string ⟨sc.toArray⟩, .string ⟨au.toArray⟩, .string ⟨pa.toArray⟩, .slice A1 fs.length c1, .slice A2 b.length c2, .slice A3 ts.length c3] : Array Value) := ⟨_, rfl⟩
    go_enter Tryz.func34, Tryz.ntmps34
    go_upto_region 1 with (fail)
    rw [← hCA]
    have hb1 := Blk.new w 32 CA
    have hF1 := HFR.out w 32 CA
    have hz1 := HS1.out w 32 CA
    generalize w.alloc (.cells CA 32) = w1 at *
    have hb2 := Blk.new w1 30 #[.slice none 0 0, .slice none 0 0, .slice none 0 0]
    have hF2 := HFR.out w1 30 #[.slice none 0 0, .slice none 0 0, .slice none 0 0]
    generalize w1.alloc (.cells #[.slice none 0 0, .slice none 0 0, .slice none 0 0] 30) = w2 at *
    have hbr := hb1.fresh hF2
    have hF02 := hF1.then_new Up.new hF2
    rw [hz1] at hb2
    rw [hCA] at hbr
    obtain ⟨gr, hgr⟩ : ∃ gr, gr = w.heap.size := ⟨_, rfl⟩
    rw [← hgr] at hbr hb2 hz1 ⊢
    obtain ⟨gm, hgm⟩ : ∃ gm, gm = gr + 1 := ⟨_, rfl⟩
    rw [← hgm] at hb2
    try rw [hz1]
    try rw [← hgm]
    have hgw : w.heap.size ≤ gm := by omega
    have hgrw : w.heap.size ≤ gr := by omega
    have hlm := hb2.lt
    have hlr := hbr.lt
    clear hb1 hF1 hF2 hgr hgm hz1 hCA
    have hy0 := hbr.cell 0
    simp only [List.getElem?_toArray, List.getElem?_cons_zero] at hy0
    have HBR := Lib.hid hbr
    have HB2 := Lib.hid hb2
    have HF02 := Lib.hid hF02
    clear hbr hb2 hF02
    go_wp2_with (first
      | (go_at_call 36; refine (HAN.out _ _ _ _ HF02.out).mono ?_; rintro e w3 ⟨X1, X2, X3, n1, n2, n3, k1, k2, k3, rfl, hF3⟩; have hbx := HB2.out.fresh hF3)
      | (refine wpList_store_agg rfl rfl rfl rfl hbx rfl (msg_one _ _ _ _ _ _ _ _ _) (by kernel_rfl) ?_; intro w8 hb8 hF8 hs8))
    refine bodyPost_ret (results_agg agM rfl rfl hb8 rfl) rfl ?_
    exact ⟨_, _, _, _, _, _, _, _, _, rfl, (HF02.out.then_new Up.new hF3).trans (hF8.mono (fun k hk => by subst hk; exact hgw))⟩
  · have a1 : (me == [72, 69, 65, 68]) = false := beq_eq_false_iff_ne.2 hme
    have a2 : ¬ me = [72, 69, 65, 68] := hme
    clear hme
    obtain ⟨CA, hCA⟩ : ∃ CA, CA = (#[.string ⟨me.toArray⟩, .string ⟨sc.toArray⟩, .string ⟨au.toArray⟩, .string ⟨pa.toArray⟩, .slice A1 fs.length c1, .slice A2 b.length c2, .slice A3 ts.length c3] : Array Value) := ⟨_, rfl⟩
    go_enter Tryz.func34, Tryz.ntmps34
    go_upto_region 1 with (fail)
    rw [← hCA]
    have hb1 := Blk.new w 32 CA
    have hF1 := HFR.out w 32 CA
    have hz1 := HS1.out w 32 CA
    generalize w.alloc (.cells CA 32) = w1 at *
    have hb2 := Blk.new w1 30 #[.slice none 0 0, .slice none 0 0, .slice none 0 0]
    have hF2 := HFR.out w1 30 #[.slice none 0 0, .slice none 0 0, .slice none 0 0]
    generalize w1.alloc (.cells #[.slice none 0 0, .slice none 0 0, .slice none 0 0] 30) = w2 at *
    have hbr := hb1.fresh hF2
    have hF02 := hF1.then_new Up.new hF2
    rw [hz1] at hb2
    rw [hCA] at hbr
    obtain ⟨gr, hgr⟩ : ∃ gr, gr = w.heap.size := ⟨_, rfl⟩
    rw [← hgr] at hbr hb2 hz1 ⊢
    obtain ⟨gm, hgm⟩ : ∃ gm, gm = gr + 1 := ⟨_, rfl⟩
    rw [← hgm] at hb2
    try rw [hz1]
    try rw [← hgm]
    have hgw : w.heap.size ≤ gm := by omega
    have hgrw : w.heap.size ≤ gr := by omega
    have hlm := hb2.lt
    have hlr := hbr.lt
    clear hb1 hF1 hF2 hgr hgm hz1 hCA
    have hy0 := hbr.cell 0
    simp only [List.getElem?_toArray, List.getElem?_cons_zero] at hy0
    have HBR := Lib.hid hbr
    have HB2 := Lib.hid hb2
    have HF02 := Lib.hid hF02
    clear hbr hb2 hF02
    go_wp2_with (first
      | (go_at_call 36; refine (HAN.out _ _ _ _ HF02.out).mono ?_; rintro e w3 ⟨X1, X2, X3, n1, n2, n3, k1, k2, k3, rfl, hF3⟩; have hbx := HB2.out.fresh hF3)
      | (refine wpList_store_agg rfl rfl rfl rfl hbx rfl (msg_one _ _ _ _ _ _ _ _ _) (by kernel_rfl) ?_; intro w8 hb8 hF8 hs8))
    refine bodyPost_ret (results_agg agM rfl rfl hb8 rfl) rfl ?_
    exact ⟨_, _, _, _, _, _, _, _, _, rfl, (HF02.out.then_new Up.new hF3).trans (hF8.mono (fun k hk => by subst hk; exact hgw))⟩
end Go.Proofs.YtpojejdddgdjdaaGreatDoor.M
namespace Go.Proofs.YtpojejdddgdjdaaGreatDoor.M
open Go.ChangeShapes Go.WideShapes Go.ChangeAt Go.RowKit

variable {α β : Type}
open Go.Maps Go.Sort Go.Shelf
def Srt {α : Type} (L : List (Bytes × α)) : Prop := (L.map (·.1)).Pairwise (· < ·)
theorem before_map (f : α → β) (k : Bytes) (L : List (Bytes × α)) : before k (L.map (fun x => (x.1, f x.2))) = before k L := by
  unfold before
  rw [List.takeWhile_map, List.length_map]
  rfl
theorem bef_le (k : Bytes) (L : List (Bytes × α)) : before k L ≤ L.length := by
  unfold before
  exact (List.takeWhile_sublist _).length_le
theorem take_bef (k : Bytes) (L : List (Bytes × α)) : L.take (before k L) = L.takeWhile (fun x => Op.bytesLess x.1 k) := by
  conv => lhs; rw [← List.takeWhile_append_dropWhile (p := fun x : Bytes × α => Op.bytesLess x.1 k) (l := L)]
  exact List.take_left' (by unfold before; rw [List.takeWhile_append_dropWhile])
theorem drop_bef (k : Bytes) (L : List (Bytes × α)) : L.drop (before k L) = L.dropWhile (fun x => Op.bytesLess x.1 k) := by
  conv => lhs; rw [← List.takeWhile_append_dropWhile (p := fun x : Bytes × α => Op.bytesLess x.1 k) (l := L)]
  exact List.drop_left' (by unfold before; rw [List.takeWhile_append_dropWhile])
theorem bef_lt {k : Bytes} {L : List (Bytes × α)} {x : Bytes × α} (h : x ∈ L.take (before k L)) : x.1 < k := by
  rw [take_bef] at h
  have := List.all_eq_true.1 (List.all_takeWhile (p := fun x : Bytes × α => Op.bytesLess x.1 k) (l := L)) x h
  rw [bytesLess_eq] at this
  exact of_decide_eq_true this
theorem Srt.tail {x : Bytes × α} {L : List (Bytes × α)} (h : Srt (x :: L)) : (∀ y ∈ L, x.1 < y.1) ∧ Srt L := by
  unfold Srt at h
  rw [List.map_cons, List.pairwise_cons] at h
  exact ⟨fun y hy => h.1 _ (List.mem_map.2 ⟨y, hy, rfl⟩), h.2⟩
theorem srt_cons {x : Bytes × α} {L : List (Bytes × α)} (h : Srt L) (hx : ∀ y ∈ L, x.1 < y.1) : Srt (x :: L) := by
  unfold Srt
  rw [List.map_cons, List.pairwise_cons]
  exact ⟨fun a ha => by obtain ⟨y, hy, rfl⟩ := List.mem_map.1 ha; exact hx y hy, h⟩
theorem srt_append {A B : List (Bytes × α)} (hA : Srt A) (hB : Srt B) (h : ∀ x ∈ A, ∀ y ∈ B, x.1 < y.1) : Srt (A ++ B) := by
  unfold Srt
  rw [List.map_append, List.pairwise_append]
  refine ⟨hA, hB, fun a ha b hb => ?_⟩
  obtain ⟨x, hx, rfl⟩ := List.mem_map.1 ha
  obtain ⟨y, hy, rfl⟩ := List.mem_map.1 hb
  exact h x hx y hy
theorem Srt.parts {A B : List (Bytes × α)} (h : Srt (A ++ B)) : Srt A ∧ Srt B ∧ (∀ x ∈ A, ∀ y ∈ B, x.1 < y.1) := by
  unfold Srt at h
  rw [List.map_append, List.pairwise_append] at h
  exact ⟨h.1, h.2.1, fun x hx y hy => h.2.2 _ (List.mem_map.2 ⟨x, hx, rfl⟩) _ (List.mem_map.2 ⟨y, hy, rfl⟩)⟩
theorem lt_irr (a : Bytes) : ¬ a < a := List.lt_irrefl a
theorem not_lt_ne {a k : Bytes} (h : ¬ a < k) (hn : a ≠ k) : k < a := by
  rcases Decidable.em (k < a) with h1 | h1
  · exact h1
  · exact absurd (List.le_antisymm (List.not_lt.1 h1) (List.not_lt.1 h)) hn
/-- what stands from there on -/
theorem drop_ge {k : Bytes} {L : List (Bytes × α)} (hs : Srt L) {x : Bytes × α} (h : x ∈ L.drop (before k L)) : ¬ x.1 < k := by
  have hsd : Srt (L.drop (before k L)) := by
    rw [← List.take_append_drop (before k L) L] at hs
    exact hs.parts.2.1
  rw [drop_bef] at h hsd
  cases hd : L.dropWhile (fun x => Op.bytesLess x.1 k) with
  | nil => rw [hd] at h; cases h
  | cons y r =>
    have hy : ¬ y.1 < k := by
      have h1 := List.head_dropWhile_not (fun x : Bytes × α => Op.bytesLess x.1 k) (l := L) (by rw [hd]; simp)
      simp only [hd, List.head_cons] at h1
      rw [bytesLess_eq] at h1
      exact of_decide_eq_false h1
    rw [hd] at h hsd
    rcases List.mem_cons.1 h with rfl | h
    · exact hy
    · intro hx
      exact hy (List.lt_trans (hsd.tail.1 x h) hx)
/-- a key that stands there -/
def Here (k : Bytes) (L : List (Bytes × α)) : Prop := (L.map (·.1))[before k L]? = some k
instance (k : Bytes) (L : List (Bytes × α)) : Decidable (Here k L) := inferInstanceAs (Decidable (_ = _))
theorem here_iff {k : Bytes} {L : List (Bytes × α)} (hs : Srt L) : Here k L ↔ k ∈ L.map (·.1) := by
  constructor
  · intro h
    exact List.mem_of_getElem? h
  · intro h
    obtain ⟨x, hx, rfl⟩ := List.mem_map.1 h
    rw [← List.take_append_drop (before x.1 L) L] at hx
    rcases List.mem_append.1 hx with h1 | h1
    · exact absurd (bef_lt h1) (lt_irr _)
    · unfold Here
      have hsd : Srt (L.drop (before x.1 L)) := by
        rw [← List.take_append_drop (before x.1 L) L] at hs
        exact hs.parts.2.1
      have hge : ∀ y ∈ L.drop (before x.1 L), ¬ y.1 < x.1 := fun y hy => drop_ge hs hy
      have e : (L.map (·.1))[before x.1 L]? = ((L.drop (before x.1 L)).map (·.1))[0]? := by
        rw [List.getElem?_map, List.getElem?_map, List.getElem?_drop, Nat.add_zero]
      rw [e]
      generalize L.drop (before x.1 L) = D at *
      cases D with
      | nil => cases h1
      | cons y r =>
        rcases List.mem_cons.1 h1 with h2 | h2
        · rw [h2]; rfl
        · exact absurd (hsd.tail.1 x h2) (hge y List.mem_cons_self)
theorem here_drop {k : Bytes} {L : List (Bytes × α)} (h : Here k L) : ∃ v, L.drop (before k L) = (k, v) :: L.drop (before k L + 1) := by
  unfold Here at h
  rw [List.getElem?_map] at h
  cases hx : L[before k L]? with
  | none => rw [hx] at h; cases h
  | some x =>
    rw [hx] at h
    simp only [Option.map_some, Option.some.injEq] at h
    obtain ⟨hlt, he⟩ := List.getElem?_eq_some_iff.1 hx
    refine ⟨x.2, ?_⟩
    rw [List.drop_eq_getElem_cons hlt, he, ← h]
theorem after_gt {k : Bytes} {L : List (Bytes × α)} (hs : Srt L) (h : Here k L) : ∀ x ∈ L.drop (before k L + 1), k < x.1 := by
  obtain ⟨v, hv⟩ := here_drop h
  have hsd : Srt (L.drop (before k L)) := by
    rw [← List.take_append_drop (before k L) L] at hs
    exact hs.parts.2.1
  rw [hv] at hsd
  exact hsd.tail.1
theorem from_gt {k : Bytes} {L : List (Bytes × α)} (hs : Srt L) (h : ¬ Here k L) : ∀ x ∈ L.drop (before k L), k < x.1 := fun x hx =>
  not_lt_ne (drop_ge hs hx) (fun e => h ((here_iff hs).2 (List.mem_map.2 ⟨x, List.mem_of_mem_drop hx, e⟩)))
theorem srt_drop {L : List (Bytes × α)} (hs : Srt L) (i : Nat) : Srt (L.drop i) := by
  rw [← List.take_append_drop i L] at hs
  exact hs.parts.2.1
theorem srt_take {L : List (Bytes × α)} (hs : Srt L) (i : Nat) : Srt (L.take i) := by
  rw [← List.take_append_drop i L] at hs
  exact hs.parts.1
def setL (k : Bytes) (v : α) (L : List (Bytes × α)) : List (Bytes × α) := L.take (before k L) ++ (k, v) :: L.drop (before k L + 1)
def insL (k : Bytes) (v : α) (L : List (Bytes × α)) : List (Bytes × α) := L.take (before k L) ++ (k, v) :: L.drop (before k L)
def cutL (k : Bytes) (L : List (Bytes × α)) : List (Bytes × α) := L.take (before k L) ++ L.drop (before k L + 1)
theorem srt_set {k : Bytes} {v : α} {L : List (Bytes × α)} (hs : Srt L) (h : Here k L) : Srt (setL k v L) := by
  refine srt_append (srt_take hs _) (srt_cons (srt_drop hs _) (after_gt hs h)) (fun x hx y hy => ?_)
  have h1 := bef_lt hx
  rcases List.mem_cons.1 hy with rfl | hy
  · exact h1
  · exact List.lt_trans h1 (after_gt hs h y hy)
theorem srt_ins {k : Bytes} {v : α} {L : List (Bytes × α)} (hs : Srt L) (h : ¬ Here k L) : Srt (insL k v L) := by
  refine srt_append (srt_take hs _) (srt_cons (srt_drop hs _) (from_gt hs h)) (fun x hx y hy => ?_)
  have h1 := bef_lt hx
  rcases List.mem_cons.1 hy with rfl | hy
  · exact h1
  · exact List.lt_trans h1 (from_gt hs h y hy)
theorem srt_cut {k : Bytes} {L : List (Bytes × α)} (hs : Srt L) (h : Here k L) : Srt (cutL k L) :=
  srt_append (srt_take hs _) (srt_drop hs _) (fun _ hx y hy => List.lt_trans (bef_lt hx) (after_gt hs h y hy))
theorem lt_ne {a b : Bytes} (h : a < b) : a ≠ b := fun e => by subst e; exact lt_irr _ h
theorem cut_filter {k : Bytes} {L : List (Bytes × α)} (hs : Srt L) (h : Here k L) : cutL k L = L.filter (fun x => decide (x.1 ≠ k)) := by
  obtain ⟨v, hv⟩ := here_drop h
  conv => rhs; rw [← List.take_append_drop (before k L) L, hv]
  have h1 : (L.take (before k L)).filter (fun x => decide (x.1 ≠ k)) = L.take (before k L) := List.filter_eq_self.2 (fun x hx => decide_eq_true (lt_ne (bef_lt hx)))
  have h2 : (L.drop (before k L + 1)).filter (fun x => decide (x.1 ≠ k)) = L.drop (before k L + 1) := List.filter_eq_self.2 (fun x hx => decide_eq_true (fun e => by have h3 := after_gt hs h x hx; rw [e] at h3; exact lt_irr _ h3))
  rw [List.filter_append, List.filter_cons, h1, h2, if_neg (by simp)]
  rfl
theorem no_filter {k : Bytes} {L : List (Bytes × α)} (hs : Srt L) (h : ¬ Here k L) : L.filter (fun x => decide (x.1 ≠ k)) = L :=
  List.filter_eq_self.2 (fun x hx => decide_eq_true (fun e => h ((here_iff hs).2 (List.mem_map.2 ⟨x, hx, e⟩))))
theorem set_perm {k : Bytes} {v : α} {L : List (Bytes × α)} (hs : Srt L) (h : Here k L) : (setL k v L).Perm ((k, v) :: L.filter (fun x => decide (x.1 ≠ k))) := by
  rw [← cut_filter hs h]
  exact List.perm_middle
theorem ins_perm {k : Bytes} {v : α} {L : List (Bytes × α)} (hs : Srt L) (h : ¬ Here k L) : (insL k v L).Perm ((k, v) :: L.filter (fun x => decide (x.1 ≠ k))) := by
  rw [no_filter hs h]
  conv => rhs; rw [← List.take_append_drop (before k L) L]
  exact List.perm_middle
theorem here_map (f : α → β) (k : Bytes) (L : List (Bytes × α)) : Here k (L.map (fun x => (x.1, f x.2))) ↔ Here k L := by
  unfold Here
  rw [before_map, List.map_map]
  rfl
theorem set_map (f : α → β) (k : Bytes) (v : α) (L : List (Bytes × α)) : (setL k v L).map (fun x => (x.1, f x.2)) = setL k (f v) (L.map (fun x => (x.1, f x.2))) := by
  unfold setL
  rw [before_map, List.map_append, List.map_cons, List.map_take, List.map_drop]
theorem ins_map (f : α → β) (k : Bytes) (v : α) (L : List (Bytes × α)) : (insL k v L).map (fun x => (x.1, f x.2)) = insL k (f v) (L.map (fun x => (x.1, f x.2))) := by
  unfold insL
  rw [before_map, List.map_append, List.map_cons, List.map_take, List.map_drop]
theorem cut_map (f : α → β) (k : Bytes) (L : List (Bytes × α)) : (cutL k L).map (fun x => (x.1, f x.2)) = cutL k (L.map (fun x => (x.1, f x.2))) := by
  unfold cutL
  rw [before_map, List.map_append, List.map_take, List.map_drop]
theorem mem_set {k : Bytes} {v : α} {L : List (Bytes × α)} {x : Bytes × α} (h : x ∈ setL k v L) : x = (k, v) ∨ x ∈ L := by
  rcases List.mem_append.1 h with h | h
  · exact .inr (List.mem_of_mem_take h)
  · rcases List.mem_cons.1 h with h | h
    · exact .inl h
    · exact .inr (List.mem_of_mem_drop h)
theorem mem_ins {k : Bytes} {v : α} {L : List (Bytes × α)} {x : Bytes × α} (h : x ∈ insL k v L) : x = (k, v) ∨ x ∈ L := by
  rcases List.mem_append.1 h with h | h
  · exact .inr (List.mem_of_mem_take h)
  · rcases List.mem_cons.1 h with h | h
    · exact .inl h
    · exact .inr (List.mem_of_mem_drop h)
theorem mem_cut {k : Bytes} {L : List (Bytes × α)} {x : Bytes × α} (h : x ∈ cutL k L) : x ∈ L := by
  rcases List.mem_append.1 h with h | h
  · exact List.mem_of_mem_take h
  · exact List.mem_of_mem_drop h
theorem here_lt {k : Bytes} {L : List (Bytes × α)} (h : Here k L) : before k L < L.length := by
  obtain ⟨h1, _⟩ := List.getElem?_eq_some_iff.1 h
  rwa [List.length_map] at h1
theorem len_set {k : Bytes} {v : α} {L : List (Bytes × α)} (h : Here k L) : (setL k v L).length = L.length := by
  have := here_lt h
  unfold setL
  rw [List.length_append, List.length_cons, List.length_take, List.length_drop]
  omega
theorem len_ins (k : Bytes) (v : α) (L : List (Bytes × α)) : (insL k v L).length = L.length + 1 := by
  have := bef_le k L
  unfold insL
  rw [List.length_append, List.length_cons, List.length_take, List.length_drop]
  omega
theorem len_cut {k : Bytes} {L : List (Bytes × α)} (h : Here k L) : (cutL k L).length + 1 = L.length := by
  have := here_lt h
  unfold cutL
  rw [List.length_append, List.length_take, List.length_drop]
  omega
theorem mem_of_getE {κ α : Type} [DecidableEq κ] {k : κ} {l : List (κ × α)} {v : α} (h : getE k l = some v) : (k, v) ∈ l := by
  induction l with
  | nil => cases h
  | cons p r ih =>
    rw [getE_cons] at h
    split at h
    · rename_i e
      obtain ⟨a, b⟩ := p
      simp only [Option.some.injEq] at h
      subst e
      subst h
      exact List.mem_cons_self
    · exact List.mem_cons_of_mem _ (ih h)
theorem getE_of_mem {κ α : Type} [DecidableEq κ] {k : κ} {l : List (κ × α)} {v : α} (hn : (l.map (·.1)).Nodup) (h : (k, v) ∈ l) : getE k l = some v := by
  induction l with
  | nil => cases h
  | cons p r ih =>
    rw [getE_cons]
    rw [List.map_cons, List.nodup_cons] at hn
    rcases List.mem_cons.1 h with h | h
    · rw [← h]; simp
    · rw [if_neg (fun e => hn.1 (List.mem_map.2 ⟨_, h, e⟩))]
      exact ih hn.2 h
theorem getE_perm {κ α : Type} [DecidableEq κ] {l m : List (κ × α)} (hp : l.Perm m) (hn : (l.map (·.1)).Nodup) (k : κ) : getE k l = getE k m := by
  have hm : (m.map (·.1)).Nodup := (hp.map _).nodup_iff.1 hn
  cases h : getE k l with
  | some v => exact (getE_of_mem hm (hp.mem_iff.1 (mem_of_getE h))).symm
  | none =>
    cases h2 : getE k m with
    | none => rfl
    | some v =>
      have := getE_of_mem hn (hp.mem_iff.2 (mem_of_getE h2))
      rw [h] at this
      cases this
theorem getE_some_iff {κ α : Type} [DecidableEq κ] {k : κ} {l : List (κ × α)} : (getE k l).isSome = true ↔ k ∈ l.map (·.1) := by
  constructor
  · intro h
    obtain ⟨v, hv⟩ := Option.isSome_iff_exists.1 h
    exact List.mem_map.2 ⟨_, mem_of_getE hv, rfl⟩
  · intro h
    cases h2 : getE k l with
    | some v => rfl
    | none =>
      exfalso
      induction l with
      | nil => cases h
      | cons p r ih =>
        rw [getE_cons] at h2
        split at h2
        · cases h2
        · rename_i e
          rw [List.map_cons] at h
          rcases List.mem_cons.1 h with h | h
          · exact e h
          · exact ih h h2
theorem delE_filter {κ α : Type} [DecidableEq κ] (k : κ) (l : List (κ × α)) (hn : (l.map (·.1)).Nodup) : delE k l = l.filter (fun x => decide (x.1 ≠ k)) := by
  induction l with
  | nil => rfl
  | cons p r ih =>
    rw [List.map_cons, List.nodup_cons] at hn
    unfold delE
    split
    · rename_i e
      have h1 : r.filter (fun x => decide (x.1 ≠ k)) = r := List.filter_eq_self.2 (fun x hx => decide_eq_true (fun h => hn.1 (List.mem_map.2 ⟨x, hx, by rw [h, e]⟩)))
      rw [List.filter_cons, if_neg (by simp [e]), h1]
    · rename_i e
      have h2 : p.1 ≠ k := fun h => e h.symm
      rw [List.filter_cons, if_pos (decide_eq_true h2), ih hn.2]
theorem putE_perm {κ α : Type} [DecidableEq κ] (k : κ) (v : α) (l : List (κ × α)) (hn : (l.map (·.1)).Nodup) : (putE k v l).Perm ((k, v) :: l.filter (fun x => decide (x.1 ≠ k))) := by
  induction l with
  | nil => exact List.Perm.refl _
  | cons p r ih =>
    rw [List.map_cons, List.nodup_cons] at hn
    unfold putE
    split
    · rename_i e
      have h1 : r.filter (fun x => decide (x.1 ≠ k)) = r := List.filter_eq_self.2 (fun x hx => decide_eq_true (fun h => hn.1 (List.mem_map.2 ⟨x, hx, by rw [h, e]⟩)))
      rw [List.filter_cons, if_neg (by simp [e]), ← e, h1]
    · rename_i e
      have h2 : p.1 ≠ k := fun h => e h.symm
      rw [List.filter_cons, if_pos (decide_eq_true h2)]
      exact ((ih hn.2).cons p).trans (List.Perm.swap _ _ _)


/-- the document's store behind a request at a key -/
def rkv (T : Sto) (me b k : Bytes) : Sto :=
  if hKey k = false then T
  else if me = bPUT then (if Here k T then setL k b T else if 64 ≤ T.length then T else insL k b T)
  else if hReads me = true then T
  else if me = bDEL then (if Here k T then cutL k T else T) else T
theorem here_getE {T S : Sto} (hp : T.Perm S) (hs : Srt T) (k : Bytes) : Here k T ↔ (getE k S).isSome = true := by
  rw [here_iff hs, getE_some_iff]
  exact (hp.map _).mem_iff
theorem rkv_ok {T S : Sto} (hp : T.Perm S) (hs : Srt T) (q : RQ) (k : Bytes) : (rkv T q.me q.b k).Perm (hKeyed S q k).2 ∧ Srt (rkv T q.me q.b k) := by
  have hnT : (T.map (·.1)).Nodup := hs.imp (fun {a b} (h : a < b) (e : a = b) => lt_ne h e)
  have hnS : (S.map (·.1)).Nodup := (hp.map _).nodup_iff.1 hnT
  have hh := here_getE hp hs k
  have hl := hp.length_eq
  have hf : (T.filter (fun x => decide (x.1 ≠ k))).Perm (S.filter (fun x => decide (x.1 ≠ k))) := hp.filter _
  unfold rkv hKeyed
  cases hk : hKey k with
  | false => exact ⟨hp, hs⟩
  | true =>
    simp only [Bool.true_eq_false, if_false]
    cases hg : getE k S with
    | none =>
      have hn : ¬ Here k T := fun h => by have := hh.1 h; rw [hg] at this; cases this
      simp only [if_neg hn, ite_self]
      by_cases hput : q.me = bPUT
      · simp only [if_pos hput]
        by_cases h64 : 64 ≤ T.length
        · simp only [if_pos h64, if_pos (show 64 ≤ S.length by omega)]
          exact ⟨hp, hs⟩
        · simp only [if_neg h64, if_neg (show ¬ 64 ≤ S.length by omega)]
          exact ⟨(ins_perm hs hn).trans ((hf.cons _).trans (putE_perm k q.b S hnS).symm), srt_ins hs hn⟩
      · simp only [if_neg hput]
        refine ⟨?_, hs⟩
        split <;> exact hp
    | some b =>
      have hy : Here k T := hh.2 (by rw [hg]; rfl)
      simp only [if_pos hy]
      by_cases hput : q.me = bPUT
      · simp only [if_pos hput]
        exact ⟨(set_perm hs hy).trans ((hf.cons _).trans (putE_perm k q.b S hnS).symm), srt_set hs hy⟩
      · simp only [if_neg hput]
        cases hr : hReads q.me with
        | true =>
          have hnd : q.me ≠ bDEL := fun e => by rw [e] at hr; exact absurd hr (by decide)
          simp only [if_true, Bool.true_eq_false, false_and, if_false, if_neg hnd]
          exact ⟨hp, hs⟩
        | false =>
          simp only [Bool.false_eq_true, if_false, true_and]
          by_cases hd : q.me = bDEL
          · simp only [hd, ne_eq, not_true_eq_false, if_false, if_true]
            rw [cut_filter hs hy, delE_filter k S hnS]
            exact ⟨hf, by rw [← cut_filter hs hy]; exact srt_cut hs hy⟩
          · simp only [ne_eq, hd, not_false_eq_true, if_true, if_false]
            exact ⟨hp, hs⟩
/-- the document's store behind a request -/
def rhandle (T : Sto) (q : RQ) : Sto :=
  if Lib.hasPrefix q.pa bStat = true then T else if Lib.hasPrefix q.pa bKv = true then rkv T q.me q.b (q.pa.drop 4) else T
theorem rhandle_ok {T S : Sto} (hp : T.Perm S) (hs : Srt T) (q : RQ) : (rhandle T q).Perm (handle S q).2 ∧ Srt (rhandle T q) := by
  unfold rhandle handle hPath cut?
  cases h1 : Lib.hasPrefix q.pa bStat with
  | true => exact ⟨hp, hs⟩
  | false =>
    simp only [Bool.false_eq_true, if_false]
    cases h2 : Lib.hasPrefix q.pa bKv with
    | true => exact rkv_ok hp hs q _
    | false =>
      simp only [Bool.false_eq_true, if_false]
      refine ⟨?_, hs⟩
      split <;> exact hp
theorem keys_sorted {T S : Sto} (hp : T.Perm S) (hs : Srt T) : (S.map (·.1)).mergeSort leB = T.map (·.1) := by
  rw [mergeSort_of_perm (hp.map (·.1)).symm]
  refine List.mergeSort_of_pairwise (hs.imp (fun {a b} h => ?_))
  exact decide_eq_true (List.le_of_lt h)
end Go.Proofs.YtpojejdddgdjdaaGreatDoor.M
