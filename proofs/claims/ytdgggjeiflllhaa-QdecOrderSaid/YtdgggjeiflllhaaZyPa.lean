/- Pa -/
import Derived.Test.YtdgggjeiflllhaaZyQkp
import Derived.Test.YtdgggjeiflllhaaZyNp
import Derived.Test.YtdgggjeiflllhaaZyBack
import Derived.Test.YtdgggjeiflllhaaZyNj
import Derived.Test.YtdgggjeiflllhaaZyNo

namespace Go.Proofs.Ytdgggjeiflllhaa.M
open Go.ChangeShapes Go.WideShapes Go.ChangeAt Go.RowKit
theorem strD_strc2 (f1 f0 k : Nat) (hf1 : f1 ≤ 255) (hf0 : f0 ≤ 255) (hk : k ≤ 7) (hb1 : f1 / 2 ^ k % 2 ≠ 0) (hb0 : f0 / 2 ^ k % 2 = 0) (s r : Bytes) (h : s.length ≤ 4096) : strD (strc f1 f0 k s ++ r) k = (s, (strc f1 f0 k s).length, 0) := by
  unfold strc
  split
  · rename_i hc
    rw [List.append_assoc]
    have h1 := rdp_pfx f1 k (hlen s) (hcode s ++ r) hf1 (by omega) (by omega)
    have h2 := pfx_headD f1 k (hlen s) (hcode s ++ r) hf1 (by omega)
    have h3 := hcode_length s
    have h4 := unhuf_hcode s h
    unfold strD
    rw [h1]
    simp only
    rw [if_neg (by simp), if_neg (by omega), if_neg (by simp [h3]), h2, if_neg hb1]
    have e : ((pfx f1 k (hlen s) ++ (hcode s ++ r)).drop (pfx f1 k (hlen s)).length).take (hlen s) = hcode s := by
      rw [List.drop_left, ← h3, List.take_left]
    rw [e, h4]
    simp [h3]
  · rw [List.append_assoc]
    have h1 := rdp_pfx f0 k s.length (s ++ r) hf0 (by omega) (by omega)
    have h2 := pfx_headD f0 k s.length (s ++ r) hf0 (by omega)
    unfold strD
    rw [h1]
    simp only
    rw [if_neg (by simp), if_neg (by omega), if_neg (by simp), h2, if_pos hb0]
    simp
theorem findS_get (l : List Fld) (f : Fld) : ((findS l f).2.2 = true → l[(findS l f).1]? = some f) ∧ ((findS l f).2.1 = true → ∃ g, l[(findS l f).1]? = some g ∧ g.1 = f.1) := by
  unfold findS
  cases h1 : fldAt l f with
  | some i => exact ⟨fun _ => fldAt_get h1, fun _ => ⟨f, fldAt_get h1, rfl⟩⟩
  | none =>
    cases h2 : nameAt l f.1 with
    | some i => exact ⟨fun c => by simp at c, fun _ => nameAt_get h2⟩
    | none => exact ⟨fun c => by simp at c, fun c => by simp at c⟩
theorem find_at {T : Tb} (hT : T.Ok) (f : Fld) (h : (T.find f).2.2 = true) : T.at_ (T.find f).1 = some f := by
  have hlt := find_lt T hT f h
  unfold Tb.find at h hlt ⊢
  cases h1 : lastAt id f T.first T.l with
  | some i =>
    rw [h1] at hlt
    simp only at hlt
    obtain ⟨h2, g, h3, h4⟩ := lastAt_get id f T.l T.first i h1
    simp only [id] at h4
    subst h4
    simp only
    unfold Tb.at_
    rw [if_pos ⟨h2, hlt⟩, h3]
  | none =>
    rw [h1] at h
    cases h2 : lastAt Prod.fst f.1 T.first T.l with
    | some i => simp [h2] at h
    | none => rw [h2] at h; simp at h
theorem ins_back (lim : Nat) {T : Tb} (f : Fld) (r : Bytes) (h1 : f.1.length ≤ 4096) (h2 : f.2.length ≤ 4096) (hc : fsize f ≤ T.cap) :
    insQ lim T (insB (findS h3tab f) f ++ r) = (0, (insB (findS h3tab f) f).length, T.add f) := by
  have hg := (findS_get h3tab f).2
  have hq1 := findS_le h3tab f
  rw [h3_len.2.2] at hq1
  generalize findS h3tab f = q at *
  obtain ⟨q1, q2, q3⟩ := q
  simp only at hg hq1
  have hv := strD_strc f.2 r h2
  unfold insB
  cases q2 with
  | true =>
    obtain ⟨g, hg1, hg2⟩ := hg rfl
    simp only [if_true]
    rw [List.append_assoc]
    have h3 := rdp_pfx 192 6 q1 (strc 128 0 7 f.2 ++ r) (by omega) (by omega) (by omega)
    have h4 : ((pfx 192 6 q1 ++ (strc 128 0 7 f.2 ++ r)).headD 0).toNat / 64 = 3 := pfx_headD 192 6 q1 (strc 128 0 7 f.2 ++ r) (by omega) (by omega)
    have hd : strD ((pfx 192 6 q1 ++ (strc 128 0 7 f.2 ++ r)).drop (pfx 192 6 q1).length) 7 = (f.2, (strc 128 0 7 f.2).length, 0) := by rw [List.drop_left]; exact hv
    rw [insQ_a (by omega) h3, if_neg (by simp)]
    have hn : nameQ T q1 (decide (((pfx 192 6 q1 ++ (strc 128 0 7 f.2 ++ r)).headD 0).toNat / 64 % 2 = 1)) = some f.1 := by
      unfold nameQ
      rw [if_pos (decide_eq_true (by omega)), hg1, Option.map_some, hg2]
    rw [hn]
    simp only
    rw [valQ_eq hd, if_neg (by simp)]
    unfold addQ
    rw [if_pos hc, List.length_append]
  | false =>
    simp only [Bool.false_eq_true, if_false]
    rw [List.append_assoc]
    have h3 := strD_strc2 96 64 5 (by omega) (by omega) (by omega) (by decide) (by decide) f.1 (strc 128 0 7 f.2 ++ r) h1
    have h4 : 64 ≤ ((strc 96 64 5 f.1 ++ (strc 128 0 7 f.2 ++ r)).headD 0).toNat ∧ ((strc 96 64 5 f.1 ++ (strc 128 0 7 f.2 ++ r)).headD 0).toNat < 128 := by
      unfold strc
      split
      · rw [List.append_assoc]
        have : ((pfx 96 5 (hlen f.1) ++ (hcode f.1 ++ (strc 128 0 7 f.2 ++ r))).headD 0).toNat / 32 = 3 := pfx_headD 96 5 (hlen f.1) _ (by omega) (by omega)
        unfold strc at this
        omega
      · rw [List.append_assoc]
        have : ((pfx 64 5 f.1.length ++ (f.1 ++ (strc 128 0 7 f.2 ++ r))).headD 0).toNat / 32 = 2 := pfx_headD 64 5 f.1.length _ (by omega) (by omega)
        unfold strc at this
        omega
    have hd : strD ((strc 96 64 5 f.1 ++ (strc 128 0 7 f.2 ++ r)).drop (strc 96 64 5 f.1).length) 7 = (f.2, (strc 128 0 7 f.2).length, 0) := by rw [List.drop_left]; exact hv
    rw [insQ_b (by omega) h4.1 h3, if_neg (by simp), valQ_eq hd, if_neg (by simp)]
    unfold addQ
    rw [if_pos hc, List.length_append]
theorem insB_ne (f : Fld) : insB (findS h3tab f) f ≠ [] := fun e => by
  have := strc_pos 128 0 7 f.2
  unfold insB at e
  have h2 := congrArg List.length e
  rw [List.length_append, List.length_nil] at h2
  omega
theorem gQ_ins {lim : Nat} (hl : lim ≤ 4096) {T : Tb} (hok : T.Ok) (hc : T.cap ≤ 4096) (f : Fld) (r : Bytes) (h1 : f.1.length ≤ 4096) (h2 : f.2.length ≤ 4096) (hf : fsize f ≤ T.cap) : gQ lim T (insB (findS h3tab f) f ++ r) = gQ lim (T.add f) r := by
  rw [gQ_cons hl hok hc (fun e => insB_ne f (List.append_eq_nil_iff.1 e).1), ins_back lim f r h1 h2 hf]
  simp only [if_true]
  rw [List.drop_left]
theorem gQ_size {lim : Nat} (hl : lim ≤ 4096) {T : Tb} (hok : T.Ok) (hc : T.cap ≤ 4096) (c : Nat) (r : Bytes) (h : c ≤ lim) : gQ lim T (pfx 32 5 c ++ r) = gQ lim (T.resize c) r := by
  have h3 := rdp_pfx 32 5 c r (by omega) (by omega) (by omega)
  have h4 : ((pfx 32 5 c ++ r).headD 0).toNat / 32 = 1 := pfx_headD 32 5 c r (by omega) (by omega)
  have hp := pfx_pos 32 5 c
  have hi : insQ lim T (pfx 32 5 c ++ r) = (0, (pfx 32 5 c).length, T.resize c) := by rw [insQ_c (by omega) (by omega) h3, if_neg (by simp), if_neg (by omega)]
  rw [gQ_cons hl hok hc (fun e => by rw [(List.append_eq_nil_iff.1 e).1] at hp; simp at hp), hi]
  simp only [if_true]
  rw [List.drop_left]
theorem roomGo_evict (E : Qn) (now : List Nat) (n cap : Nat) : ∀ (l : List Fld) (p left : Nat), left + fsizes l = cap → roomGo E now n l p left = true → ∃ k, k ≤ l.length ∧ evict n cap l = l.drop k ∧ ∀ i, i < k → E.held now (p + i) = false
  | [], p, left, _, _ => ⟨0, Nat.le_refl _, rfl, fun i hi => absurd hi (Nat.not_lt_zero _)⟩
  | f :: r, p, left, hl, h => by
    rw [fsizes_cons] at hl
    unfold roomGo at h
    unfold evict
    rw [fsizes_cons]
    by_cases h1 : n ≤ left
    · rw [if_neg (by omega)]
      exact ⟨0, Nat.zero_le _, rfl, fun i hi => absurd hi (Nat.not_lt_zero _)⟩
    · rw [if_neg h1] at h
      cases hh : E.held now p with
      | true => rw [hh] at h; cases h
      | false =>
        rw [hh, if_neg (by simp)] at h
        obtain ⟨k, h2, h3, h4⟩ := roomGo_evict E now n cap r (p + 1) (left + fsize f) (by omega) h
        rw [if_pos (by omega)]
        refine ⟨k + 1, by simp; omega, by rw [h3]; rfl, fun i hi => ?_⟩
        cases i with
        | zero => exact hh
        | succ i => rw [show p + (i + 1) = p + 1 + i by omega]; exact h4 i (by omega)
theorem room_cap {E : Qn} {T : Tb} {now : List Nat} {f : Fld} (h : E.room T now f = true) : fsize f ≤ T.cap := by
  unfold Qn.room at h
  by_cases hc : secret f.1 = true ∨ T.cap / 4 < fsize f
  · rw [if_pos hc] at h; cases h
  · omega
theorem room_keep {E : Qn} {T : Tb} {now : List Nat} {f : Fld} (hok : T.Ok) (h : E.room T now f = true) {p : Nat} {g : Fld} (hp : T.at_ p = some g) (hh : E.held now p = true) : (T.add f).at_ p = some g := by
  have hc := room_cap h
  unfold Qn.room at h
  rw [if_neg (fun e => by rw [if_pos e] at h; cases h)] at h
  have hfi := hok.fits
  have hle := hok.le
  obtain ⟨k, h1, h2, h3⟩ := roomGo_evict E now (fsize f) T.cap T.l T.first (T.cap - fsizes T.l) (by omega) h
  unfold Tb.at_ at hp
  by_cases hb : T.first ≤ p ∧ p < T.n
  · rw [if_pos hb] at hp
    have hk : k ≤ p - T.first := by
      refine Nat.le_of_not_lt fun hlt => ?_
      have := h3 (p - T.first) hlt
      rw [show T.first + (p - T.first) = p by omega, hh] at this
      cases this
    unfold Tb.add
    rw [if_pos hc, h2]
    unfold Tb.at_ Tb.first at *
    simp only [List.length_append, List.length_drop, List.length_cons, List.length_nil]
    rw [if_pos (by omega), List.getElem?_append_left (by rw [List.length_drop]; omega), List.getElem?_drop, ← hp]
    congr 1
    omega
  · rw [if_neg hb] at hp; cases hp
theorem new_at {T : Tb} (hok : T.Ok) {f : Fld} (h : fsize f ≤ T.cap) : (T.add f).at_ T.n = some f := by
  have hle := hok.le
  have hev := evict_length (fsize f) T.cap T.l
  unfold Tb.add
  rw [if_pos h]
  unfold Tb.at_ Tb.first
  simp only [List.length_append, List.length_cons, List.length_nil]
  rw [if_pos (by omega), List.getElem?_append_right (by omega), show T.n - (T.n + 1 - ((evict (fsize f) T.cap T.l).length + (0 + 1))) - (evict (fsize f) T.cap T.l).length = 0 by omega]
  rfl
theorem decQ_encQ (count total cap : Nat) (h1 : count ≤ total + mostQ cap) (h2 : 0 < count → total < count + mostQ cap) (h3 : 0 < count → 0 < mostQ cap) : decQ (encQ count cap) total cap = (count, 0) := by
  unfold encQ decQ
  generalize mostQ cap = m at *
  by_cases h0 : count = 0
  · subst h0; rfl
  · have hm := h3 (by omega)
    have h2 := h2 (by omega)
    rw [show (if count = 0 ∨ m = 0 then 0 else count % (2 * m) + 1) = count % (2 * m) + 1 from if_neg (by omega)]
    have hlt := Nat.mod_lt count (show 0 < 2 * m by omega)
    rw [if_neg (by omega), if_neg (by omega)]
    have hda := Nat.div_add_mod count (2 * m)
    have hdb := Nat.div_add_mod (total + m) (2 * m)
    have hms := Nat.mod_lt (total + m) (show 0 < 2 * m by omega)
    have hab : count / (2 * m) ≤ (total + m) / (2 * m) := Nat.div_le_div_right h1
    have hba : (total + m) / (2 * m) ≤ count / (2 * m) + 1 := by
      have : (total + m) / (2 * m) ≤ (count + 2 * m) / (2 * m) := Nat.div_le_div_right (by omega)
      rwa [Nat.add_div_right _ (by omega)] at this
    generalize count % (2 * m) = r at *
    generalize count / (2 * m) = a at *
    generalize (total + m) / (2 * m) = b at *
    generalize (total + m) % (2 * m) = s at *
    rw [Nat.mul_comm b]
    have hcase : b = a ∨ b = a + 1 := by omega
    rcases hcase with rfl | rfl
    · generalize 2 * m * b = z at *
      rw [if_neg (by omega), if_neg (by omega)]
      exact Prod.ext (by show z + (r + 1) - 1 = count; omega) rfl
    · rw [Nat.mul_add, Nat.mul_one] at hdb ⊢
      generalize 2 * m * a = z at *
      rw [if_pos (by omega), if_neg (by omega)]
      exact Prod.ext (by show z + 2 * m + (r + 1) - 1 - 2 * m = count; omega) rfl
theorem pref_back (count total cap : Nat) (r : Bytes) (hc : cap ≤ 4096) (h1 : count ≤ total + mostQ cap) (h2 : 0 < count → total < count + mostQ cap) (h3 : 0 < count → 0 < mostQ cap) (h4 : count ≤ 4611686018427387903) :
    rpfQ (prefQ count count cap ++ r) total cap = (count, count, (prefQ count count cap).length, 0) := by
  have he := encQ_le count cap hc
  have hd := decQ_encQ count total cap h1 h2 h3
  unfold prefQ
  rw [if_pos (Nat.le_refl _), Nat.sub_self, List.append_assoc]
  have a1 := rdp_pfx 0 8 (encQ count cap) (pfx 0 7 0 ++ r) (by omega) (by omega) (by omega)
  have a2 := rdp_pfx 0 7 0 r (by omega) (by omega) (by omega)
  have a3 : ((pfx 0 7 0 ++ r).headD 0).toNat / 128 = 0 := pfx_headD 0 7 0 r (by omega) (by omega)
  unfold rpfQ
  rw [a1]
  simp only
  rw [if_neg (by simp), List.drop_left, a2]
  simp only
  rw [if_neg (by simp), hd]
  simp only
  rw [if_neg (by simp), if_neg (by omega), if_neg (by omega), List.length_append]
  rfl
structure LineOk (T : Tb) (count : Nat) (x : Lq) : Prop where
  k0 : x.kind = 0 → h3tab[x.i]? = some x.f
  k1 : x.kind = 1 → T.at_ x.i = some x.f ∧ x.i < count
  k2 : x.kind = 2 → ∃ g, h3tab[x.i]? = some g ∧ g.1 = x.f.1
  i : x.i ≤ 1152921504606846976
  n : x.f.1.length ≤ 4096
  v : x.f.2.length ≤ 4096
theorem litQ_back (nm v r : Bytes) (b : Bytes) (hv : v.length ≤ 4096) : litQp nm (b ++ (strc 128 0 7 v ++ r)) b.length = some ((nm, v), (b ++ strc 128 0 7 v).length) := by
  have hd : strD ((b ++ (strc 128 0 7 v ++ r)).drop b.length) 7 = (v, (strc 128 0 7 v).length, 0) := by rw [List.drop_left]; exact strD_strc v r hv
  unfold litQp
  rw [hd]
  simp only
  rw [if_neg (by simp), List.length_append]
theorem line9_back {T : Tb} {count : Nat} {x : Lq} (h : LineOk T count x) (hct : count ≤ 1152921504606846976) (r : Bytes) : lineQ T count count (lineN count x ++ r) = some (x.f, (lineN count x).length) := by
  have hi := h.i
  unfold lineN
  by_cases k0 : x.kind = 0
  · rw [if_pos k0]
    have a1 := rdp_pfx 192 6 x.i r (by omega) (by omega) (by omega)
    have a2 : ((pfx 192 6 x.i ++ r).headD 0).toNat / 64 = 3 := pfx_headD 192 6 x.i r (by omega) (by omega)
    rw [lineQp_a (by omega) a1, if_neg (by simp), h.k0 k0]
    rfl
  rw [if_neg k0]
  by_cases k1 : x.kind = 1
  · rw [if_pos k1]
    obtain ⟨ha, hlt⟩ := h.k1 k1
    have a1 := rdp_pfx 128 6 (count - 1 - x.i) r (by omega) (by omega) (by omega)
    have a2 : ((pfx 128 6 (count - 1 - x.i) ++ r).headD 0).toNat / 64 = 2 := pfx_headD 128 6 (count - 1 - x.i) r (by omega) (by omega)
    have a3 : entQ T count (relQ count (count - 1 - x.i)) = some x.f := by
      have hr : relQ count (count - 1 - x.i) = (count - 1 - (count - 1 - x.i), true) := by unfold relQ; rw [if_neg (by omega)]
      rw [hr]
      unfold entQ
      rw [if_pos ⟨rfl, by show count - 1 - (count - 1 - x.i) < count; omega⟩]
      show T.at_ (count - 1 - (count - 1 - x.i)) = some x.f
      rw [show count - 1 - (count - 1 - x.i) = x.i by omega]
      exact ha
    rw [lineQp_b (by omega) (by omega) a1, if_neg (by simp), a3]
    rfl
  rw [if_neg k1]
  by_cases k2 : x.kind = 2
  · rw [if_pos k2]
    obtain ⟨g, hg, hn⟩ := h.k2 k2
    have key : ∀ fb, (fb = 112 ∨ fb = 80) → lineQ T count count ((pfx fb 4 x.i ++ strc 128 0 7 x.f.2) ++ r) = some (x.f, (pfx fb 4 x.i ++ strc 128 0 7 x.f.2).length) := fun fb hfb => by
      rw [List.append_assoc]
      have a1 := rdp_pfx fb 4 x.i (strc 128 0 7 x.f.2 ++ r) (by omega) (by omega) (by omega)
      have a2 : ((pfx fb 4 x.i ++ (strc 128 0 7 x.f.2 ++ r)).headD 0).toNat / 16 = fb / 16 := pfx_headD fb 4 x.i (strc 128 0 7 x.f.2 ++ r) (by omega) (by omega)
      rw [lineQp_c (by omega) (by omega) (by omega) a1, if_neg (by simp), hg]
      simp only
      rw [hn, litQ_back _ _ _ _ h.v]
    split
    · exact key 112 (.inl rfl)
    · exact key 80 (.inr rfl)
  · rw [if_neg k2]
    have key : ∀ f1 f0, (f1 = 56 ∧ f0 = 48 ∨ f1 = 40 ∧ f0 = 32) → lineQ T count count ((strc f1 f0 3 x.f.1 ++ strc 128 0 7 x.f.2) ++ r) = some (x.f, (strc f1 f0 3 x.f.1 ++ strc 128 0 7 x.f.2).length) := fun f1 f0 hf => by
      rw [List.append_assoc]
      have a1 := strD_strc2 f1 f0 3 (by omega) (by omega) (by omega) (by rcases hf with ⟨rfl, rfl⟩ | ⟨rfl, rfl⟩ <;> decide) (by rcases hf with ⟨rfl, rfl⟩ | ⟨rfl, rfl⟩ <;> decide) x.f.1 (strc 128 0 7 x.f.2 ++ r) h.n
      have a2 : 32 ≤ ((strc f1 f0 3 x.f.1 ++ (strc 128 0 7 x.f.2 ++ r)).headD 0).toNat ∧ ((strc f1 f0 3 x.f.1 ++ (strc 128 0 7 x.f.2 ++ r)).headD 0).toNat < 64 := by
        generalize strc 128 0 7 x.f.2 ++ r = t
        unfold strc
        split
        · rw [List.append_assoc]
          have : ((pfx f1 3 (hlen x.f.1) ++ (hcode x.f.1 ++ t)).headD 0).toNat / 8 = f1 / 8 := pfx_headD f1 3 (hlen x.f.1) _ (by omega) (by omega)
          omega
        · rw [List.append_assoc]
          have : ((pfx f0 3 x.f.1.length ++ (x.f.1 ++ t)).headD 0).toNat / 8 = f0 / 8 := pfx_headD f0 3 x.f.1.length _ (by omega) (by omega)
          omega
      rw [lineQp_e (by omega) a2.1 a1, if_neg (by simp), litQ_back _ _ _ _ h.v]
    cases hs : secret x.f.1 with
    | true => exact key 56 48 (.inl ⟨rfl, rfl⟩)
    | false => exact key 40 32 (.inr ⟨rfl, rfl⟩)
theorem lineN_ne (count : Nat) (x : Lq) : lineN count x ≠ [] := fun e => by
  have h1 := pfx_pos 192 6 x.i
  have h2 := pfx_pos 128 6 (count - 1 - x.i)
  have h3 := strc_pos 128 0 7 x.f.2
  unfold lineN at e
  split at e
  · rw [e] at h1; simp at h1
  · split at e
    · rw [e] at h2; simp at h2
    · rw [(List.append_eq_nil_iff.1 e).2] at h3; simp at h3
theorem lines9_back {T : Tb} {count : Nat} (hct : count ≤ 1152921504606846976) : ∀ (ls : List Lq) (fu : Nat) (out : List Fld), (∀ x ∈ ls, LineOk T count x) → out.length + ls.length ≤ 64 → (linesN count ls).length ≤ fu → linesQ T count count fu out (linesN count ls) = some (out ++ ls.map (·.f))
  | [], fu, out, _, _, _ => by
    rw [show linesN count [] = [] from rfl, linesQp_nil]
    simp
  | x :: ls, fu, out, h, ho, hf => by
    have hx : linesN count (x :: ls) = lineN count x ++ linesN count ls := rfl
    rw [hx] at hf ⊢
    have hne := lineN_ne count x
    have hpos : 0 < (lineN count x).length := List.length_pos_iff.2 hne
    rw [List.length_append] at hf
    obtain ⟨fu, rfl⟩ : ∃ f, fu = f + 1 := ⟨fu - 1, by omega⟩
    rw [linesQp_cons _ _ _ _ _ (fun e => hne (List.append_eq_nil_iff.1 e).1), line9_back (h x (List.mem_cons_self ..)) hct]
    simp only [List.length_cons] at ho ⊢
    rw [if_neg (by omega), List.drop_left, lines9_back hct ls fu (out ++ [x.f]) (fun y hy => h y (List.mem_cons_of_mem _ hy)) (by simp; omega) (by omega)]
    simp
end Go.Proofs.Ytdgggjeiflllhaa.M
namespace Go.Proofs.Ytdgggjeiflllhaa.M
open Go.ChangeShapes Go.WideShapes Go.ChangeAt Go.RowKit
structure RdW (E : Qn) (W : Wq) (lim : Nat) (T0 : Tb) (l : List Fld) : Prop where
  fs : W.lines.map (·.f) = l
  li : ∀ x ∈ W.lines, (x.kind = 0 → h3tab[x.i]? = some x.f) ∧ (x.kind = 1 → W.t.at_ x.i = some x.f ∧ x.i ∈ W.uses) ∧ (x.kind = 2 → ∃ g, h3tab[x.i]? = some g ∧ g.1 = x.f.1)
  fd : ∀ r, gQ lim T0 (W.out ++ r) = gQ lim W.t r
  ge : E.t.n ≤ W.t.n
  ct : 0 < W.count → ∃ x ∈ W.lines, x.kind = 1 ∧ x.i + 1 = W.count
section
variable {E : Qn} {W : Wq} {lim : Nat} {T0 : Tb} {l : List Fld}
theorem RdW.line (h : RdW E W lim T0 l) (x : Lq) (h0 : x.kind = 0 → h3tab[x.i]? = some x.f) (h1 : x.kind ≠ 1) (h2 : x.kind = 2 → ∃ g, h3tab[x.i]? = some g ∧ g.1 = x.f.1) : RdW E { W with lines := W.lines ++ [x] } lim T0 (l ++ [x.f]) :=
  { fs := by show (W.lines ++ [x]).map (·.f) = _; rw [List.map_append, h.fs]; rfl
    li := fun y hy => by
      rcases List.mem_append.1 hy with hy | hy
      · exact h.li y hy
      · rw [List.mem_singleton.1 hy]
        exact ⟨h0, fun e => absurd e h1, h2⟩
    fd := h.fd, ge := h.ge
    ct := fun hc => by
      obtain ⟨y, hy, h3, h4⟩ := h.ct hc
      exact ⟨y, List.mem_append_left _ hy, h3, h4⟩ }
theorem RdW.use (h : RdW E W lim T0 l) (f : Fld) (p : Nat) (hp : W.t.at_ p = some f) : RdW E (W.use f p) lim T0 (l ++ [f]) :=
  { fs := by show (W.lines ++ [(⟨1, p, f⟩ : Lq)]).map (·.f) = _; rw [List.map_append, h.fs]; rfl
    li := fun y hy => by
      rcases List.mem_append.1 hy with hy | hy
      · exact ⟨(h.li y hy).1, fun e => ⟨((h.li y hy).2.1 e).1, List.mem_append_left _ ((h.li y hy).2.1 e).2⟩, (h.li y hy).2.2⟩
      · rw [List.mem_singleton.1 hy]
        exact ⟨fun e => by simp at e, fun _ => ⟨hp, List.mem_append_right _ (List.mem_singleton.2 rfl)⟩, fun e => by simp at e⟩
    fd := h.fd, ge := h.ge
    ct := fun _ => by
      show ∃ x ∈ W.lines ++ [⟨1, p, f⟩], x.kind = 1 ∧ x.i + 1 = max W.count (p + 1)
      by_cases hc : p + 1 ≤ W.count
      · obtain ⟨y, hy, h3, h4⟩ := h.ct (by omega)
        exact ⟨y, List.mem_append_left _ hy, h3, by omega⟩
      · exact ⟨⟨1, p, f⟩, List.mem_append_right _ (List.mem_singleton.2 rfl), rfl, by show p + 1 = _; omega⟩ }
theorem RdW.ins (h : RdW E W lim T0 l) (hok : W.t.Ok) (hcap : W.t.cap ≤ 4096) (hlim : lim ≤ 4096) (f : Fld) (h1 : f.1.length ≤ 4096) (h2 : f.2.length ≤ 4096) (hr : E.room W.t W.uses f = true) : RdW E { W with t := W.t.add f, out := W.out ++ insB (findS h3tab f) f } lim T0 l :=
  { fs := h.fs
    li := fun y hy => ⟨(h.li y hy).1, fun e => by
      obtain ⟨h3, h4⟩ := (h.li y hy).2.1 e
      refine ⟨room_keep hok hr h3 ?_, h4⟩
      unfold Qn.held
      simp [h4], (h.li y hy).2.2⟩
    fd := fun r => by
      show gQ lim T0 (W.out ++ insB (findS h3tab f) f ++ r) = _
      rw [List.append_assoc, h.fd, gQ_ins hlim hok hcap f r h1 h2 (room_cap hr)]
    ge := by have := (Tb.add_ok hok (room_cap hr)).2; have := h.ge; show E.t.n ≤ (W.t.add f).n; omega
    ct := h.ct }
theorem RdW.one (h : RdW E W lim T0 l) {n0 o0 cap m : Nat} {F : Fld → Prop} (hI : W.Inv n0 o0 cap m F) (hcap : cap ≤ 4096) (hlim : lim ≤ 4096) (fr : Bool) (f : Fld) (h1 : f.1.length ≤ 4096) (h2 : f.2.length ≤ 4096) : RdW E (oneN E fr W f) lim T0 (l ++ [f]) := by
  have htc : W.t.cap ≤ 4096 := by rw [hI.tc]; exact hcap
  have hg := findS_get h3tab f
  have hlit : ∀ {W2 : Wq}, RdW E W2 lim T0 l → RdW E { W2 with lines := W2.lines ++ [litQn (findS h3tab f) f] } lim T0 (l ++ [f]) := fun {W2} hW => by
    have e : (litQn (findS h3tab f) f).f = f := by unfold litQn; split <;> rfl
    have := hW.line (litQn (findS h3tab f) f) (fun q => by unfold litQn at q; split at q <;> simp at q) (fun q => by unfold litQn at q; split at q <;> simp at q) (fun q => by
      rw [e]
      unfold litQn at q ⊢
      by_cases hc : (findS h3tab f).2.1 = true
      · rw [if_pos hc]; exact hg.2 hc
      · rw [if_neg hc] at q; simp at q)
    rw [e] at this
    exact this
  unfold oneN
  by_cases a : (findS h3tab f).2.2 = true
  · rw [if_pos a]
    exact h.line ⟨0, (findS h3tab f).1, f⟩ (fun _ => hg.1 a) (by simp) (fun e => by simp at e)
  rw [if_neg a]
  by_cases b : (W.t.find f).2.2 = true
  · rw [if_pos b]
    split
    · exact h.use f _ (find_at hI.ok f b)
    · exact hlit h
  rw [if_neg b]
  by_cases c : E.room W.t W.uses f = true
  · rw [if_pos c]
    have hw := h.ins hI.ok htc hlim f h1 h2 c
    split
    · refine hw.use f _ ?_
      rw [(Tb.add_ok hI.ok (room_cap c)).2, Nat.add_sub_cancel]
      exact new_at hI.ok (room_cap c)
    · exact hlit hw
  · rw [if_neg c]
    exact hlit h
def Fit (f : Fld) : Prop := f.1.length ≤ 4096 ∧ f.2.length ≤ 4096
theorem RdW.all {n0 o0 cap : Nat} (hcap : cap ≤ 4096) (hlim : lim ≤ 4096) (fr : Bool) : ∀ (k : List Fld) (W : Wq) (l : List Fld) (m : Nat), RdW E W lim T0 l → W.Inv n0 o0 cap m Fit → (∀ f ∈ k, Fit f) → RdW E (allN E fr W k) lim T0 (l ++ k)
  | [], W, l, m, h, _, _ => by rw [List.append_nil]; exact h
  | f :: k, W, l, m, h, hI, hF => by
    have hf := hF f (List.mem_cons_self ..)
    have := RdW.all hcap hlim fr k (oneN E fr W f) (l ++ [f]) (m + 1) (h.one hI hcap hlim fr f hf.1 hf.2) (oneN_inv fr f hI hf hcap) (fun x hx => hF x (List.mem_cons_of_mem _ hx))
    rw [List.append_assoc] at this
    exact this
end
def Qn.far (E : Qn) : Tb := if E.begun = true then E.t else ⟨[], 0, 0⟩
theorem RdW.start {E : Qn} {lim : Nat} (hlim : lim ≤ 4096) (hl : E.t.cap ≤ lim) (hf : E.begun = false → E.t = ⟨[], 0, E.t.cap⟩) : RdW E E.wq lim E.far [] :=
  { fs := rfl
    li := fun x hx => (by cases hx)
    fd := fun r => by
      unfold Qn.wq Qn.far
      cases hb : E.begun with
      | true => simp
      | false =>
        have hE := hf hb
        simp only [Bool.false_eq_true, if_false, true_and]
        by_cases hc : 0 < E.t.cap
        · rw [if_pos hc, gQ_size hlim ⟨Nat.le_refl _, Nat.le_refl _⟩ (by show 0 ≤ 4096; omega) E.t.cap r hl]
          rw [show (⟨[], 0, 0⟩ : Tb).resize E.t.cap = E.t from hE.symm]
        · rw [if_neg hc, List.nil_append]
          rw [show E.t.cap = 0 by omega] at hE
          rw [← hE]
    ge := Nat.le_refl _
    ct := fun e => absurd e (Nat.lt_irrefl _) }
theorem gQ_nil (lim : Nat) (T : Tb) : gQ lim T [] = (T, [], false) := rfl
structure Sent (E : Qn) (s : Nat) (l : List Fld) (lim : Nat) (W : Wq) : Prop where
  def_ : W = allN E (E.free s) E.wq l
  rd : RdW E W lim E.far l
  inv : W.Inv E.t.n 1000 E.t.cap l.length Fit
theorem Qn.sent {E : Qn} (hok : E.t.Ok) (hcap : E.t.cap ≤ 4096) {lim : Nat} (hlim : lim ≤ 4096) (hl : E.t.cap ≤ lim) (hf : E.begun = false → E.t = ⟨[], 0, E.t.cap⟩) (s : Nat) (l : List Fld) (hF : ∀ f ∈ l, Fit f) : Sent E s l lim (allN E (E.free s) E.wq l) := by
  have h0 := wq_inv E hok Fit
  have h1 := allN_inv (E := E) (E.free s) hcap l E.wq 0 h0 hF
  rw [Nat.zero_add] at h1
  exact ⟨rfl, RdW.all hcap hlim (E.free s) l E.wq [] 0 (RdW.start hlim hl hf) h0 hF, h1⟩
theorem Tb.at_lt {T : Tb} {p : Nat} {f : Fld} (h : T.at_ p = some f) : T.first ≤ p ∧ p < T.n := by
  unfold Tb.at_ at h
  by_cases hb : T.first ≤ p ∧ p < T.n
  · exact hb
  · rw [if_neg hb] at h; cases h
theorem Sent.lines {E : Qn} {s : Nat} {l : List Fld} {lim : Nat} {W : Wq} (h : Sent E s l lim W) (hn : E.t.n + l.length ≤ 1152921504606846976) {T : Tb} (hT : ∀ p f, W.t.at_ p = some f → T.at_ p = some f) : ∀ x ∈ W.lines, LineOk T W.count x := fun x hx => by
  have h1 := h.rd.li x hx
  have h2 := h.inv.li x hx
  have h3 := h.inv.lf x hx
  have h4 := h.inv.tn
  exact { k0 := h1.1, k1 := fun e => ⟨hT _ _ (h1.2.1 e).1, h2.1 e⟩, k2 := h1.2.2, i := by omega, n := h3.1, v := h3.2 }
theorem Sent.wind {E : Qn} {s : Nat} {l : List Fld} {lim : Nat} {W : Wq} (h : Sent E s l lim W) : 0 < W.count → W.t.n < W.count + mostQ E.t.cap ∧ 0 < mostQ E.t.cap := fun hc => by
  obtain ⟨x, hx, h1, h2⟩ := h.rd.ct hc
  have h3 := Tb.at_lt ((h.rd.li x hx).2.1 h1).1
  have h4 := h.inv.ok.le
  have h5 := h.inv.ok.fits
  have h6 := len_fsizes W.t.l
  have h7 := h.inv.tc
  unfold Tb.first at h3
  unfold mostQ
  rw [h7] at h5
  omega
theorem Qd.takes {D : Qd} (hb : D.bad = false) {s count cap : Nat} (hcl : D.lim = cap) {ls : List Lq} (hc : cap ≤ 4096) (hct : count ≤ 1152921504606846976) (h0 : count ≤ D.t.n) (h2 : 0 < count → D.t.n < count + mostQ cap ∧ 0 < mostQ cap) (hl : ∀ x ∈ ls, LineOk D.t count x) (h64 : ls.length ≤ 64) :
    D.decode s (prefQ count count cap ++ linesN count ls) = ((ls.map (·.f), 0), { D.forget s with out := if 0 < count then D.out ++ pfx 128 7 s else D.out, told := if 0 < count then max D.told count else D.told }) := by
  subst hcl
  have hp := pref_back count D.t.n D.lim (linesN count ls) hc (by omega) (fun e => (h2 e).1) (fun e => (h2 e).2) (by omega)
  unfold Qd.decode
  rw [hb, if_neg (by simp), hp]
  simp only
  rw [if_neg (by simp), if_neg (by omega), List.drop_left, lines9_back hct ls _ [] hl (by simp; omega) (Nat.le_refl _)]
  rfl
structure SyQ (E : Qn) (D : Qd) : Prop where
  err : E.err = 0
  erest : E.rest = []
  bad : D.bad = false
  rest : D.rest = []
  lim : D.lim = E.t.cap
  tab : D.t = E.far
  fresh : E.begun = false → E.t = ⟨[], 0, E.t.cap⟩
  out : D.out = E.opn.flatMap fun o => pfx 128 7 o.stream
  told : D.told = E.opn.foldl (fun m o => max m o.count) E.known
  ok : E.t.Ok
  cap : E.t.cap ≤ 4096
  kn : E.known ≤ E.t.n
  ct : ∀ o ∈ E.opn, o.count ≤ E.t.n ∧ o.stream ≤ 4611686018427387903
theorem Qd.fed {D : Qd} (hb : D.bad = false) (hr : D.rest = []) {x : Bytes} {T : Tb} (h : gQ D.lim D.t (x ++ []) = gQ D.lim T []) : D.feed x = (0, { D with t := T }) := by
  rw [List.append_nil, gQ_nil] at h
  rw [feed_ok hb, hr, List.nil_append, h]
  obtain ⟨t, lim, blk, waits, rest, out, told, bad⟩ := D
  simp only at hb hr
  subst hb hr
  rfl
theorem SyQ.enc {E : Qn} {D : Qd} (h : SyQ E D) (s : Nat) (hs : s ≤ 4611686018427387903) (l : List Fld) (hl : l.length ≤ 64) (hF : ∀ f ∈ l, Fit f) (hn : E.t.n + l.length ≤ 1152921504606846976) :
    ∃ D1 D2, D.feed (E.enc s l).1.1 = (0, D1) ∧ D1.decode s (E.enc s l).1.2 = ((l, 0), D2) ∧ SyQ (E.enc s l).2 D2 := by
  have hS := Qn.sent (lim := D.lim) h.ok h.cap (by rw [h.lim]; exact h.cap) (by rw [h.lim]; exact Nat.le_refl _) h.fresh s l hF
  unfold Qn.enc
  simp only
  generalize hW : allN E (E.free s) E.wq l = W at *
  have hfd := Qd.fed h.bad h.rest (x := W.out) (T := W.t) (by rw [h.tab]; exact hS.rd.fd [])
  have h1 := hS.inv.ct
  have h2 := hS.inv.tn
  have htk := Qd.takes (D := { D with t := W.t }) h.bad (s := s) (count := W.count) (ls := W.lines) (cap := E.t.cap) h.lim h.cap (by omega) h1
    (fun e => hS.wind e) (hS.lines hn (fun p f e => e)) (by rw [hS.inv.ll]; exact hl)
  rw [hS.rd.fs] at htk
  have h0 := hS.rd.ge
  refine ⟨_, _, hfd, htk, ?_⟩
  exact {
    err := h.err, erest := h.erest, bad := h.bad, rest := h.rest
    lim := by show D.lim = W.t.cap; rw [hS.inv.tc]; exact h.lim
    tab := by show W.t = _; rfl
    fresh := fun e => by cases e
    out := by
      show (if 0 < W.count then D.out ++ pfx 128 7 s else D.out) = _
      simp only
      split
      · rw [List.flatMap_append, h.out]; simp
      · exact h.out
    told := by
      show (if 0 < W.count then max D.told W.count else D.told) = _
      simp only
      split
      · rw [List.foldl_append, h.told]; rfl
      · exact h.told
    ok := hS.inv.ok
    cap := by show W.t.cap ≤ 4096; rw [hS.inv.tc]; exact h.cap
    kn := by have := h.kn; show E.known ≤ W.t.n; omega
    ct := fun o ho => by
      have hold : ∀ o ∈ E.opn, o.count ≤ W.t.n ∧ o.stream ≤ 4611686018427387903 := fun o ho => ⟨by have := (h.ct o ho).1; omega, (h.ct o ho).2⟩
      show o.count ≤ W.t.n ∧ _
      simp only at ho
      split at ho
      · rcases List.mem_append.1 ho with ho | ho
        · exact hold o ho
        · rw [List.mem_singleton.1 ho]; exact ⟨h1, hs⟩
      · exact hold o ho }
theorem feedN_step {E E2 : Qn} {f k : Nat} {b : Bytes} (hb : b ≠ []) (h : E.ins b = (0, k, E2)) : feedN (f + 1) E b = feedN f E2 (b.drop k) := by
  cases b with
  | nil => exact absurd rfl hb
  | cons c r =>
    conv => lhs; unfold feedN
    rw [h]
    show (if (0 : Nat) = 0 then feedN f E2 (List.drop k (c :: r)) else _) = _
    rw [if_pos rfl]
theorem pfx_app_ne (f k v : Nat) (r : Bytes) : pfx f k v ++ r ≠ [] := fun e => by
  have := pfx_pos f k v
  rw [(List.append_eq_nil_iff.1 e).1] at this
  simp at this
theorem ins_ack {E : Qn} {o : Qs} {L : List Qs} (h : E.opn = o :: L) (hs : o.stream ≤ 4611686018427387903) (r : Bytes) : E.ins (pfx 128 7 o.stream ++ r) = (0, (pfx 128 7 o.stream).length, { E with known := max E.known o.count, opn := L }) := by
  have a1 := rdp_pfx 128 7 o.stream r (by omega) (by omega) hs
  have a2 : ((pfx 128 7 o.stream ++ r).headD 0).toNat / 128 = 1 := pfx_headD 128 7 o.stream r (by omega) (by omega)
  have a3 : 128 ≤ ((pfx 128 7 o.stream ++ r).headD 0).toNat := by omega
  unfold Qn.ins
  simp only [if_pos a3, a1, h]
  unfold ackGo
  rw [if_pos rfl]
  rfl
theorem ins_grow {E : Qn} {n : Nat} (h0 : 0 < n) (h1 : n ≤ E.t.n - E.known) (hn : n ≤ 4611686018427387903) (r : Bytes) : E.ins (pfx 0 6 n ++ r) = (0, (pfx 0 6 n).length, { E with known := E.known + n }) := by
  have a1 := rdp_pfx 0 6 n r (by omega) (by omega) hn
  have a2 : ((pfx 0 6 n ++ r).headD 0).toNat / 64 = 0 := pfx_headD 0 6 n r (by omega) (by omega)
  have a3 : ¬ 128 ≤ ((pfx 0 6 n ++ r).headD 0).toNat := by omega
  have a4 : ¬ 64 ≤ ((pfx 0 6 n ++ r).headD 0).toNat := by omega
  unfold Qn.ins
  simp only [if_neg a3, if_neg a4, a1]
  rw [if_neg (by simp), if_neg (by omega)]
theorem feedN_acks : ∀ (L : List Qs) (E : Qn) (fu : Nat) (r : Bytes), E.opn = L → (∀ o ∈ L, o.stream ≤ 4611686018427387903) → ((L.flatMap fun o => pfx 128 7 o.stream) ++ r).length ≤ fu →
    ∃ fu', r.length ≤ fu' ∧ feedN fu E ((L.flatMap fun o => pfx 128 7 o.stream) ++ r) = feedN fu' { E with opn := [], known := L.foldl (fun m o => max m o.count) E.known } r
  | [], E, fu, r, h, _, hf => ⟨fu, by simpa using hf, by
    obtain ⟨t, blk, known, opn, rest, begun, err⟩ := E
    simp only at h
    subst h
    rfl⟩
  | o :: L, E, fu, r, h, hs, hf => by
    rw [List.flatMap_cons, List.append_assoc] at hf ⊢
    have hp := pfx_pos 128 7 o.stream
    rw [List.length_append] at hf
    obtain ⟨fu, rfl⟩ : ∃ f, fu = f + 1 := ⟨fu - 1, by omega⟩
    rw [feedN_step (pfx_app_ne _ _ _ _) (ins_ack h (hs o (List.mem_cons_self ..)) _), List.drop_left]
    exact feedN_acks L { E with known := max E.known o.count, opn := L } fu r rfl (fun x hx => hs x (List.mem_cons_of_mem _ hx)) (by omega)
theorem foldl_max_le : ∀ (L : List Qs) (m n : Nat), m ≤ n → (∀ o ∈ L, o.count ≤ n) → L.foldl (fun m o => max m o.count) m ≤ n
  | [], _, _, h, _ => h
  | o :: L, m, n, h, hL => foldl_max_le L (max m o.count) n (by have := hL o (List.mem_cons_self ..); omega) (fun x hx => hL x (List.mem_cons_of_mem _ hx))
theorem SyQ.send {E : Qn} {D : Qd} (h : SyQ E D) (hn : E.t.n ≤ 4611686018427387903) : (E.feed D.send.1).1 = 0 ∧ SyQ (E.feed D.send.1).2 D.send.2 := by
  have htn : D.t.n = E.t.n := by
    rw [h.tab]
    unfold Qn.far
    split
    · rfl
    · rename_i hb
      rw [h.fresh (by cases hq : E.begun with | true => exact absurd hq hb | false => rfl)]
  have hle := foldl_max_le E.opn E.known E.t.n h.kn (fun o ho => (h.ct o ho).1)
  rw [← h.told] at hle
  have key : E.feed D.send.1 = (0, { E with opn := [], known := E.t.n, rest := [] }) := by
    unfold Qn.feed
    rw [if_neg (by rw [h.err]; simp), h.erest, List.nil_append]
    unfold Qd.send
    simp only [htn]
    by_cases hlt : D.told < E.t.n
    · rw [if_pos hlt, h.out]
      obtain ⟨fu, h1, h2⟩ := feedN_acks E.opn E _ (pfx 0 6 (E.t.n - D.told)) rfl (fun o ho => (h.ct o ho).2) (Nat.le_refl _)
      rw [h2, ← h.told]
      have hp := pfx_pos 0 6 (E.t.n - D.told)
      obtain ⟨fu, rfl⟩ : ∃ f, fu = f + 1 := ⟨fu - 1, by omega⟩
      have h3 := ins_grow (E := { E with opn := [], known := D.told }) (n := E.t.n - D.told) (by omega) (Nat.le_refl _) (by omega) []
      have h4 := feedN_step (f := fu) (pfx_app_ne 0 6 (E.t.n - D.told) []) h3
      rw [List.drop_left, List.append_nil] at h4
      rw [h4]
      have e : D.told + (E.t.n - D.told) = E.t.n := by omega
      simp only [e]
      cases fu <;> rfl
    · rw [if_neg hlt, h.out]
      obtain ⟨fu, h1, h2⟩ := feedN_acks E.opn E _ [] rfl (fun o ho => (h.ct o ho).2) (Nat.le_refl _)
      rw [List.append_nil] at h2
      rw [h2, ← h.told, show D.told = E.t.n by omega]
      cases fu <;> rfl
  rw [key]
  refine ⟨rfl, ?_⟩
  exact {
    err := h.err, erest := rfl, bad := h.bad, rest := h.rest, lim := h.lim, tab := h.tab, fresh := h.fresh
    out := rfl
    told := by show max D.told D.t.n = E.t.n; omega
    ok := h.ok, cap := h.cap, kn := Nat.le_refl _
    ct := fun o ho => by cases ho }
end Go.Proofs.Ytdgggjeiflllhaa.M

