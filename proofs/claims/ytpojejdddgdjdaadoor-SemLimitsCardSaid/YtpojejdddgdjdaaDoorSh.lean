/- What the program calls of Go's library, laid in plain words; what these calls return. No condition. -/
import Derived.Test.YtpojejdddgdjdaaDoorRows
import Derived.Test.YtpojejdddgdjdaaDoorFl
import Derived.Shelf.Strings.SlTrimAscii
import Derived.Shelf.Small.Strs
import Derived.Shelf.Strings.Prefix
import Derived.Shelf.Strings.Search1
import Derived.Shelf.Strconv.Atoi
import Derived.Ground.NamesProg
import Derived.Lib.AtoiErrMem
namespace Go.Proofs.YtpojejdddgdjdaaDoor.M
open Go.ChangeShapes Go.WideShapes Go.ChangeAt Go.RowKit
open Go.Shelf
def semLays160_ren : Go.Shelf.Ren := ⟨fun | 160 => 33 | 232 => 46 | 231 => 45 | 227 => 47 | 234 => 49 | 233 => 48 | 236 => 51 | 235 => 50 | 228 => 61 | 271 => 64 | 151 => 63 | 197 => 62 | 120 => 75 | 152 => 74 | 260 => 73 | 137 => 70 | 119 => 82 | 224 => 83 | 225 => 84 | 217 => 80 | 266 => 88 | n => n, fun | 9 => 9 | 4 => 4 | 3 => 3 | 5 => 5 | 117 => 87 | 116 => 86 | 0 => 0 | 124 => 90 | 21 => 21 | 105 => 93 | 46 => 106 | 119 => 111 | 139 => 114 | 138 => 113 | n => n, fun | 3 => 2 | 4 => 3 | n => n⟩
theorem semLays160 : Go.Proofs.Lays.n160 Tryd.prog semLays160_ren := {
  mixed := by kernel_rfl
  f119 := Tryd.func82.trans (congrArg some (by kernel_rfl))
  f120 := Tryd.func75.trans (congrArg some (by kernel_rfl))
  f137 := Tryd.func70.trans (congrArg some (by kernel_rfl))
  f151 := Tryd.func63.trans (congrArg some (by kernel_rfl))
  f152 := Tryd.func74.trans (congrArg some (by kernel_rfl))
  f160 := Tryd.func33.trans (congrArg some (by kernel_rfl))
  f197 := Tryd.func62.trans (congrArg some (by kernel_rfl))
  f217 := Tryd.func80.trans (congrArg some (by kernel_rfl))
  f224 := Tryd.func83.trans (congrArg some (by kernel_rfl))
  f225 := Tryd.func84.trans (congrArg some (by kernel_rfl))
  f227 := Tryd.func47.trans (congrArg some (by kernel_rfl))
  f228 := Tryd.func61.trans (congrArg some (by kernel_rfl))
  f231 := Tryd.func45.trans (congrArg some (by kernel_rfl))
  f232 := Tryd.func46.trans (congrArg some (by kernel_rfl))
  f233 := Tryd.func48.trans (congrArg some (by kernel_rfl))
  f234 := Tryd.func49.trans (congrArg some (by kernel_rfl))
  f235 := Tryd.func50.trans (congrArg some (by kernel_rfl))
  f236 := Tryd.func51.trans (congrArg some (by kernel_rfl))
  f260 := Tryd.func73.trans (congrArg some (by kernel_rfl))
  f266 := Tryd.func88.trans (congrArg some (by kernel_rfl))
  f271 := Tryd.func64.trans (congrArg some (by kernel_rfl))
  t0 := Tryd.underlying0
  a0 := Tryd.isAgg0
  z0 := Tryd.sizeOf0
  v0 := Tryd.zeroValue0
  t3 := Tryd.underlying3
  a3 := Tryd.isAgg3
  z3 := Tryd.sizeOf3
  v3 := Tryd.zeroValue3
  t4 := Tryd.underlying4
  a4 := Tryd.isAgg4
  z4 := Tryd.sizeOf4
  v4 := Tryd.zeroValue4
  t5 := Tryd.underlying5
  a5 := Tryd.isAgg5
  z5 := Tryd.sizeOf5
  v5 := Tryd.zeroValue5
  t9 := Tryd.underlying9
  a9 := Tryd.isAgg9
  z9 := Tryd.sizeOf9
  v9 := Tryd.zeroValue9
  t21 := Tryd.underlying21
  a21 := Tryd.isAgg21
  z21 := Tryd.sizeOf21
  v21 := Tryd.zeroValue21
  t46 := Tryd.underlying106
  a46 := Tryd.isAgg106
  z46 := Tryd.sizeOf106
  v46 := Tryd.zeroValue106
  t105 := Tryd.underlying93
  a105 := Tryd.isAgg93
  z105 := Tryd.sizeOf93
  v105 := Tryd.zeroValue93
  t116 := Tryd.underlying86
  a116 := Tryd.isAgg86
  z116 := Tryd.sizeOf86
  t117 := Tryd.underlying87
  a117 := Tryd.isAgg87
  z117 := Tryd.sizeOf87
  v117 := Tryd.zeroValue87
  t119 := Tryd.underlying111
  a119 := Tryd.isAgg111
  z119 := Tryd.sizeOf111
  t124 := Tryd.underlying90
  a124 := Tryd.isAgg90
  z124 := Tryd.sizeOf90
  v124 := Tryd.zeroValue90
  t138 := Tryd.underlying113
  a138 := Tryd.isAgg113
  z138 := Tryd.sizeOf113
  v138 := Tryd.zeroValue113
  t139 := Tryd.underlying114
  a139 := Tryd.isAgg114
  z139 := Tryd.sizeOf114
  v139 := Tryd.zeroValue114
  g3 := by kernel_rfl
  g4 := by kernel_rfl }
def semLays172_ren : Go.Shelf.Ren := ⟨fun | 172 => 34 | 244 => 52 | 245 => 53 | 247 => 65 | 279 => 66 | 280 => 67 | 281 => 68 | 282 => 69 | 287 => 76 | 316 => 77 | 171 => 79 | 205 => 78 | 321 => 85 | 322 => 86 | 243 => 87 | 246 => 89 | 283 => 90 | 284 => 91 | 285 => 92 | 286 => 93 | 129 => 95 | 317 => 94 | 318 => 96 | 319 => 97 | 320 => 98 | 337 => 99 | 338 => 100 | n => n, fun | 9 => 9 | 3 => 3 | 75 => 69 | 76 => 70 | 4 => 4 | 5 => 5 | 167 => 96 | 37 => 23 | 0 => 0 | 85 => 97 | 2 => 2 | 168 => 99 | 53 => 41 | 175 => 104 | 46 => 106 | 210 => 108 | 127 => 119 | 145 => 122 | 143 => 120 | 21 => 21 | 171 => 124 | 173 => 127 | 212 => 130 | 51 => 131 | 20 => 20 | 213 => 132 | 232 => 136 | 233 => 137 | 80 => 138 | n => n, fun | 15 => 0 | 16 => 1 | 17 => 5 | 18 => 6 | 19 => 7 | n => n⟩
theorem semLays172 : Go.Proofs.Lays.n172 Tryd.prog semLays172_ren := {
  mixed := by kernel_rfl
  f129 := Tryd.func95.trans (congrArg some (by kernel_rfl))
  f171 := Tryd.func79.trans (congrArg some (by kernel_rfl))
  f172 := Tryd.func34.trans (congrArg some (by kernel_rfl))
  f205 := Tryd.func78.trans (congrArg some (by kernel_rfl))
  f243 := Tryd.func87.trans (congrArg some (by kernel_rfl))
  f244 := Tryd.func52.trans (congrArg some (by kernel_rfl))
  f245 := Tryd.func53.trans (congrArg some (by kernel_rfl))
  f246 := Tryd.func89.trans (congrArg some (by kernel_rfl))
  f247 := Tryd.func65.trans (congrArg some (by kernel_rfl))
  f279 := Tryd.func66.trans (congrArg some (by kernel_rfl))
  f280 := Tryd.func67.trans (congrArg some (by kernel_rfl))
  f281 := Tryd.func68.trans (congrArg some (by kernel_rfl))
  f282 := Tryd.func69.trans (congrArg some (by kernel_rfl))
  f283 := Tryd.func90.trans (congrArg some (by kernel_rfl))
  f284 := Tryd.func91.trans (congrArg some (by kernel_rfl))
  f285 := Tryd.func92.trans (congrArg some (by kernel_rfl))
  f286 := Tryd.func93.trans (congrArg some (by kernel_rfl))
  f287 := Tryd.func76.trans (congrArg some (by kernel_rfl))
  f316 := Tryd.func77.trans (congrArg some (by kernel_rfl))
  f317 := Tryd.func94.trans (congrArg some (by kernel_rfl))
  f318 := Tryd.func96.trans (congrArg some (by kernel_rfl))
  f319 := Tryd.func97.trans (congrArg some (by kernel_rfl))
  f320 := Tryd.func98.trans (congrArg some (by kernel_rfl))
  f321 := Tryd.func85.trans (congrArg some (by kernel_rfl))
  f322 := Tryd.func86.trans (congrArg some (by kernel_rfl))
  f337 := Tryd.func99.trans (congrArg some (by kernel_rfl))
  f338 := Tryd.func100.trans (congrArg some (by kernel_rfl))
  t0 := Tryd.underlying0
  a0 := Tryd.isAgg0
  z0 := Tryd.sizeOf0
  v0 := Tryd.zeroValue0
  t2 := Tryd.underlying2
  a2 := Tryd.isAgg2
  z2 := Tryd.sizeOf2
  v2 := Tryd.zeroValue2
  t3 := Tryd.underlying3
  a3 := Tryd.isAgg3
  z3 := Tryd.sizeOf3
  v3 := Tryd.zeroValue3
  t4 := Tryd.underlying4
  a4 := Tryd.isAgg4
  z4 := Tryd.sizeOf4
  v4 := Tryd.zeroValue4
  t5 := Tryd.underlying5
  a5 := Tryd.isAgg5
  z5 := Tryd.sizeOf5
  v5 := Tryd.zeroValue5
  t9 := Tryd.underlying9
  a9 := Tryd.isAgg9
  z9 := Tryd.sizeOf9
  v9 := Tryd.zeroValue9
  t20 := Tryd.underlying20
  a20 := Tryd.isAgg20
  z20 := Tryd.sizeOf20
  v20 := Tryd.zeroValue20
  t21 := Tryd.underlying21
  a21 := Tryd.isAgg21
  z21 := Tryd.sizeOf21
  v21 := Tryd.zeroValue21
  t37 := Tryd.underlying23
  a37 := Tryd.isAgg23
  z37 := Tryd.sizeOf23
  v37 := Tryd.zeroValue23
  t46 := Tryd.underlying106
  a46 := Tryd.isAgg106
  z46 := Tryd.sizeOf106
  v46 := Tryd.zeroValue106
  t51 := Tryd.underlying131
  a51 := Tryd.isAgg131
  z51 := Tryd.sizeOf131
  v51 := Tryd.zeroValue131
  t53 := Tryd.underlying41
  a53 := Tryd.isAgg41
  z53 := Tryd.sizeOf41
  v53 := Tryd.zeroValue41
  t75 := Tryd.underlying69
  a75 := Tryd.isAgg69
  z75 := Tryd.sizeOf69
  v75 := Tryd.zeroValue69
  t76 := Tryd.underlying70
  a76 := Tryd.isAgg70
  z76 := Tryd.sizeOf70
  v76 := Tryd.zeroValue70
  t85 := Tryd.underlying97
  a85 := Tryd.isAgg97
  z85 := Tryd.sizeOf97
  v85 := Tryd.zeroValue97
  t127 := Tryd.underlying119
  a127 := Tryd.isAgg119
  z127 := Tryd.sizeOf119
  v127 := Tryd.zeroValue119
  t143 := Tryd.underlying120
  a143 := Tryd.isAgg120
  z143 := Tryd.sizeOf120
  v143 := Tryd.zeroValue120
  t145 := Tryd.underlying122
  a145 := Tryd.isAgg122
  z145 := Tryd.sizeOf122
  v145 := Tryd.zeroValue122
  t167 := Tryd.underlying96
  a167 := Tryd.isAgg96
  z167 := Tryd.sizeOf96
  v167 := Tryd.zeroValue96
  t168 := Tryd.underlying99
  a168 := Tryd.isAgg99
  z168 := Tryd.sizeOf99
  v168 := Tryd.zeroValue99
  t171 := Tryd.underlying124
  a171 := Tryd.isAgg124
  z171 := Tryd.sizeOf124
  v171 := Tryd.zeroValue124
  t173 := Tryd.underlying127
  a173 := Tryd.isAgg127
  z173 := Tryd.sizeOf127
  v173 := Tryd.zeroValue127
  t175 := Tryd.underlying104
  a175 := Tryd.isAgg104
  z175 := Tryd.sizeOf104
  v175 := Tryd.zeroValue104
  t210 := Tryd.underlying108
  a210 := Tryd.isAgg108
  z210 := Tryd.sizeOf108
  v210 := Tryd.zeroValue108
  t212 := Tryd.underlying130
  a212 := Tryd.isAgg130
  z212 := Tryd.sizeOf130
  v212 := Tryd.zeroValue130
  t213 := Tryd.underlying132
  a213 := Tryd.isAgg132
  z213 := Tryd.sizeOf132
  t232 := Tryd.underlying136
  a232 := Tryd.isAgg136
  z232 := Tryd.sizeOf136
  v232 := Tryd.zeroValue136
  t233 := Tryd.underlying137
  a233 := Tryd.isAgg137
  z233 := Tryd.sizeOf137
  v233 := Tryd.zeroValue137
  g15 := by kernel_rfl
  g16 := by kernel_rfl
  g17 := by kernel_rfl
  g18 := by kernel_rfl
  g19 := by kernel_rfl }
def semLays101_ren : Go.Shelf.Ren := ⟨fun | 101 => 57 | 208 => 71 | 206 => 81 | n => n, fun | 9 => 9 | 4 => 4 | 3 => 3 | n => n, fun | n => n⟩
theorem semLays101 : Go.Proofs.Lays.n101 Tryd.prog semLays101_ren := {
  mixed := by kernel_rfl
  f101 := Tryd.func57.trans (congrArg some (by kernel_rfl))
  f206 := Tryd.func81.trans (congrArg some (by kernel_rfl))
  f208 := Tryd.func71.trans (congrArg some (by kernel_rfl))
  t3 := Tryd.underlying3
  a3 := Tryd.isAgg3
  z3 := Tryd.sizeOf3
  v3 := Tryd.zeroValue3
  t4 := Tryd.underlying4
  a4 := Tryd.isAgg4
  z4 := Tryd.sizeOf4
  v4 := Tryd.zeroValue4
  t9 := Tryd.underlying9
  a9 := Tryd.isAgg9
  z9 := Tryd.sizeOf9
  v9 := Tryd.zeroValue9 }
def semLays137_ren : Go.Shelf.Ren := ⟨fun | 137 => 70 | 217 => 80 | 266 => 88 | n => n, fun | 9 => 9 | 5 => 5 | 3 => 3 | n => n, fun | n => n⟩
theorem semLays137 : Go.Proofs.Lays.n137 Tryd.prog semLays137_ren := {
  mixed := by kernel_rfl
  f137 := Tryd.func70.trans (congrArg some (by kernel_rfl))
  f217 := Tryd.func80.trans (congrArg some (by kernel_rfl))
  f266 := Tryd.func88.trans (congrArg some (by kernel_rfl))
  t3 := Tryd.underlying3
  a3 := Tryd.isAgg3
  z3 := Tryd.sizeOf3
  v3 := Tryd.zeroValue3
  t5 := Tryd.underlying5
  a5 := Tryd.isAgg5
  z5 := Tryd.sizeOf5
  v5 := Tryd.zeroValue5
  t9 := Tryd.underlying9
  a9 := Tryd.isAgg9
  z9 := Tryd.sizeOf9
  v9 := Tryd.zeroValue9 }

/-- the digits -/
def digs : Bytes := [48, 49, 50, 51, 52, 53, 54, 55, 56, 57]
def dig (c : UInt8) : Bool := decide (48 ≤ c.toNat ∧ c.toNat ≤ 57)
theorem dig_digs (c : UInt8) : digs.contains c = dig c := by
  have h : ∀ n : Fin 256, digs.contains (UInt8.ofNat n.val) = dig (UInt8.ofNat n.val) := by decide +kernel
  have := h ⟨c.toNat, c.toNat_lt⟩
  simpa using this
theorem dropWhile_nil {α : Type} (p : α → Bool) (l : List α) : l.dropWhile p = [] ↔ ∀ x ∈ l, p x = true := by
  induction l with
  | nil => simp
  | cons x r ih =>
    rw [List.dropWhile_cons]
    by_cases h : p x = true
    · rw [if_pos h, ih]; simp [h]
    · rw [if_neg h]; simp [h]
theorem trimS_digs (s : Bytes) : Lib.trimS s digs = [] ↔ s.all dig = true := by
  unfold Lib.trimS Lib.trimLeftS Lib.trimRightS
  rw [dropWhile_nil, List.all_eq_true]
  constructor
  · intro h x hx
    by_cases hd : dig x = true
    · exact hd
    · exfalso
      have h2 : x ∈ (s.reverse.dropWhile (digs.contains ·)).reverse := by
        rw [List.mem_reverse]
        have : ∀ (l : Bytes), x ∈ l → x ∈ l.dropWhile (digs.contains ·) := by
          intro l
          induction l with
          | nil => intro h; cases h
          | cons y r ih =>
            intro hm
            rw [List.dropWhile_cons]
            by_cases hy : digs.contains y = true
            · rw [if_pos hy]
              rcases List.mem_cons.1 hm with rfl | hm
              · rw [dig_digs] at hy; exact absurd hy hd
              · exact ih hm
            · rw [if_neg hy]; exact hm
        exact this _ (List.mem_reverse.2 hx)
      have := h x h2
      rw [dig_digs] at this
      exact hd this
  · intro h x hx
    rw [dig_digs]
    have h1 := List.mem_reverse.1 hx
    have h2 := (List.dropWhile_suffix (digs.contains ·)).subset h1
    exact h x (List.mem_reverse.1 h2)
/-- a numeral's value -/
def numF (a : Nat) : Bytes → Nat
  | [] => a
  | c :: r => numF (10 * a + (c.toNat - 48)) r
theorem dig_val {c : UInt8} (h : dig c = true) : Lib.digitVal c = some (c.toNat - 48) := by
  unfold dig at h
  rw [decide_eq_true_iff] at h
  unfold Lib.digitVal
  rw [if_pos h]
theorem decFrom_digs (s : Bytes) : ∀ a : Nat, s.all dig = true → Lib.decFrom a s = some (numF a s) := by
  induction s with
  | nil => intro a _; rfl
  | cons c r ih =>
    intro a h
    rw [List.all_cons, Bool.and_eq_true] at h
    have e1 : Lib.decFrom a (c :: r) = Lib.decFrom (a * 10 + (c.toNat - 48)) r := by
      conv => lhs; unfold Lib.decFrom
      rw [dig_val h.1]
    have e2 : numF a (c :: r) = numF (a * 10 + (c.toNat - 48)) r := by
      conv => lhs; unfold numF
      rw [Nat.mul_comm]
    rw [e1, e2]
    exact ih _ h.2
theorem atoi_digs (s : Bytes) (hn : s ≠ []) (h : s.all dig = true) : Lib.atoi s = some (numF 0 s : Nat) := by
  cases s with
  | nil => exact absurd rfl hn
  | cons c r =>
    have hd := h
    simp only [List.all_cons, Bool.and_eq_true] at hd
    have hd := hd.1
    unfold dig at hd
    rw [decide_eq_true_iff] at hd
    have h1 : (c == 45) = false := by
      rw [beq_eq_false_iff_ne]; intro e; subst e; revert hd; decide
    have h2 : (c == 43) = false := by
      rw [beq_eq_false_iff_ne]; intro e; subst e; revert hd; decide
    unfold Lib.atoi
    simp only [h1, h2, Bool.false_eq_true, if_false]
    have h3 : Lib.decNat (c :: r) = some (numF 0 (c :: r)) := by
      unfold Lib.decNat
      rw [if_neg (by simp)]
      exact decFrom_digs (c :: r) 0 h
    rw [h3]
    rfl
theorem dig_le {c : UInt8} (h : dig c = true) : c.toNat - 48 ≤ 9 := by
  unfold dig at h
  rw [decide_eq_true_iff] at h
  omega
theorem numF_lt (s : Bytes) : ∀ a : Nat, s.all dig = true → numF a s < (a + 1) * 10 ^ s.length := by
  induction s with
  | nil => intro a _; show a < (a + 1) * 1; omega
  | cons c r ih =>
    intro a h
    rw [List.all_cons, Bool.and_eq_true] at h
    have h1 := ih (10 * a + (c.toNat - 48)) h.2
    have h2 := dig_le h.1
    have e2 : numF a (c :: r) = numF (10 * a + (c.toNat - 48)) r := by
      conv => lhs; unfold numF
    rw [e2, List.length_cons, Nat.pow_succ]
    have h3 : 10 * a + (c.toNat - 48) + 1 ≤ (a + 1) * 10 := by omega
    refine Nat.lt_of_lt_of_le h1 (Nat.le_trans (Nat.mul_le_mul_right _ h3) ?_)
    rw [Nat.mul_assoc, Nat.mul_comm 10]
    exact Nat.le_refl _
theorem trim_any (s : Bytes) (w : World) (hs : s.length ≤ 9223372036854775807) :
    Calls Tryd.prog 33 #[.string ⟨s.toArray⟩, .string { data := #[48, 49, 50, 51, 52, 53, 54, 55, 56, 57] }] w fun e w' => e = .returned (.string ⟨(Lib.trimS s digs).toArray⟩) ∧ Frm (New w) w w' := by
  refine (Any.strings_Trim_laid semLays160 (by kernel_rfl) ⟨s.toArray⟩ ⟨#[48, 49, 50, 51, 52, 53, 54, 55, 56, 57]⟩ w (by simpa [ByteArray.size] using hs) (by decide) (ascii_of_all (by decide))).mono ?_
  rintro e w' ⟨rfl, h⟩
  exact ⟨rfl, Frm.of_below h⟩
theorem trim_yes (s : Bytes) (w : World) (hs : s.length ≤ 9223372036854775807) (h : s.all dig = true) :
    Calls Tryd.prog 33 #[.string ⟨s.toArray⟩, .string { data := #[48, 49, 50, 51, 52, 53, 54, 55, 56, 57] }] w fun e w' => e = .returned (.string ⟨#[]⟩) ∧ Frm (New w) w w' := by
  refine (trim_any s w hs).mono ?_
  rintro e w' ⟨rfl, hF⟩
  rw [(trimS_digs s).2 h]
  exact ⟨rfl, hF⟩
theorem trim_no (s : Bytes) (w : World) (hs : s.length ≤ 9223372036854775807) (h : s.all dig = false) :
    Calls Tryd.prog 33 #[.string ⟨s.toArray⟩, .string { data := #[48, 49, 50, 51, 52, 53, 54, 55, 56, 57] }] w fun e w' => (∃ (c : UInt8) (r : Bytes), e = .returned (.string ⟨(c :: r).toArray⟩)) ∧ Frm (New w) w w' := by
  refine (trim_any s w hs).mono ?_
  rintro e w' ⟨rfl, hF⟩
  cases ht : Lib.trimS s digs with
  | nil => rw [(trimS_digs s).1 ht] at h; cases h
  | cons c r => exact ⟨⟨c, r, rfl⟩, hF⟩
theorem atoi_any (s : Bytes) (w : World) (hn : s ≠ []) (hl : s.length ≤ 18) (h : s.all dig = true) :
    Calls Tryd.prog 34 #[.string ⟨s.toArray⟩] w fun e w' => e = .returned (.tuple #[.int .i64 (numF 0 s : Nat), .nilIface]) ∧ Frm (New w) w w' := by
  refine (Any.strconv_Atoi semLays172 ⟨s.toArray⟩ (numF 0 s : Nat) (by simpa [ByteArray.size] using hl) (by simpa using atoi_digs s hn h) w).mono ?_
  rintro e w' ⟨rfl, t, rfl⟩
  exact ⟨rfl, Frm.of_below (Lib.bytesWorld_below w _ t)⟩
theorem trimPrefix_any (s : Bytes) (w : World) :
    Calls Tryd.prog 57 #[.string ⟨s.toArray⟩, .string { data := #[58] }] w fun e w' => e = .returned (.string ⟨(if s.head? = some 58 then s.tail else s).toArray⟩) ∧ w = w' := by
  refine (Any.strings_TrimPrefix semLays101 ⟨s.toArray⟩ ⟨#[58]⟩ w).mono ?_
  rintro e w' ⟨rfl, rfl⟩
  refine ⟨?_, rfl⟩
  congr 3
  show (Lib.trimPrefix s [58]).toArray = _
  unfold Lib.trimPrefix Lib.hasPrefix
  cases s with
  | nil => rfl
  | cons c r =>
    by_cases hc : c = 58
    · subst hc; simp
    · have h2 : ¬ (58 = c) := fun e => hc e.symm
      simp [hc, h2, List.isPrefixOf]
theorem index_any (s : Bytes) (c : UInt8) (w : World) :
    Calls Tryd.prog 70 #[.string ⟨s.toArray⟩, .int .u8 (c.toNat : Int)] w fun e w' => e = .returned (.int .i64 (Lib.indexByte s c)) ∧ w = w' := by
  refine (Any.strings_IndexByte semLays137 ⟨s.toArray⟩ (c.toNat : Int) w).mono ?_
  rintro e w' ⟨rfl, rfl⟩
  refine ⟨?_, rfl⟩
  simp
end Go.Proofs.YtpojejdddgdjdaaDoor.M
