/- sem.Class, on both sides. Each number fits its type. -/
import Derived.BigQuiet
import Derived.Deep.RegionLaw
import Derived.Deep.CutBlock
import Derived.Lib.Hide
import Derived.IntWalk
import Derived.Laws.StructEq
import Derived.Test.YtpojejdddgdjdaaDoorSr
namespace Go.Proofs.YtpojejdddgdjdaaDoor.M
open Go.ChangeShapes Go.WideShapes Go.ChangeAt Go.RowKit

/-- the class of a code -/
def clsN (s c : Int) : Nat := if (s = 2 ∧ c = 1) ∨ (s = 3 ∧ c = 270) then 1 else if (s = 2 ∧ c = 11) ∨ (s = 3 ∧ c = 263) then 2 else 0
set_option maxRecDepth 100000 in
set_option maxHeartbeats 1000000 in
theorem rclass_any (s c : Int) (w : World) :
    Calls Tryd.prog 22 #[.int .i64 s, .int .u64 c] w fun e w' => e = .returned (.int .i64 (clsN s c : Nat)) ∧ w = w' := by
  obtain ⟨r, hr⟩ : ∃ r, r = clsN s c := ⟨_, rfl⟩
  rw [← hr]
  have HR := Lib.hid hr
  clear hr
  go_enter Tryd.func22, Tryd.ntmps22
  by_cases h2 : s = 2
  · subst h2
    by_cases c1 : c = 1
    · subst c1
      go_wp2_with (fail)
      go_ret
      exact ⟨by rw [HR.out]; rfl, rfl⟩
    by_cases c2 : c = 11
    · subst c2
      go_wp2_with (fail)
      go_ret
      exact ⟨by rw [HR.out]; rfl, rfl⟩
    have hr0 : r = 0 := by rw [HR.out]; unfold clsN; rw [if_neg (by omega), if_neg (by omega)]
    have HR0 := Lib.hid hr0
    clear hr0
    go_wp2_with (fail)
    go_ret
    exact ⟨by rw [HR0.out]; rfl, rfl⟩
  by_cases h3 : s = 3
  · subst h3
    by_cases c1 : c = 270
    · subst c1
      go_wp2_with (fail)
      go_ret
      exact ⟨by rw [HR.out]; rfl, rfl⟩
    by_cases c2 : c = 263
    · subst c2
      go_wp2_with (fail)
      go_ret
      exact ⟨by rw [HR.out]; rfl, rfl⟩
    have hr0 : r = 0 := by rw [HR.out]; unfold clsN; rw [if_neg (by omega), if_neg (by omega)]
    have HR0 := Lib.hid hr0
    clear hr0
    go_wp2_with (fail)
    go_ret
    exact ⟨by rw [HR0.out]; rfl, rfl⟩
  have hr0 : r = 0 := by rw [HR.out]; unfold clsN; rw [if_neg (by omega), if_neg (by omega)]
  have HR0 := Lib.hid hr0
  clear hr0
  go_wp2_with (fail)
  go_ret
  exact ⟨by rw [HR0.out]; rfl, rfl⟩
def ckey (p : Int × Int) : Value := .agg #[.int .i64 p.1, .int .u64 p.2]
theorem partI {T : TypeId} {k : IntKind} (hu : Tryd.prog.underlying T = some (.int k)) (cs : Array Value) (i : Nat) (v : Value) (h : cs[i]? = some v) (w : World) : (part T cs i).run Tryd.prog w = .ok v w := by
  simp [part, isAgg, run_underlying hu, h]
theorem eqI {T : TypeId} {k : IntKind} (hu : Tryd.prog.underlying T = some (.int k)) (a b : Int) (d : Nat) (w : World) : (Op.equalIn (d + 1) T (.int k a) (.int k b)).run Tryd.prog w = .ok (decide (a = b)) w := by
  unfold Op.equalIn
  simp only [Sem.run_bind, run_underlying hu, Result.andThen_ok]
  by_cases h : a = b <;> simp [h]
theorem run_eq_ck (a b : Int × Int) (w : World) : (Op.equalIn 10000 73 (ckey a) (ckey b)).run Tryd.prog w = .ok (decide (a = b)) w := by
  unfold ckey
  have hf : Tryd.prog.fieldsOf 73 = #[{ name := "stack", type := 3, offset := 0, embedded := false, tag := "", pkgPath := "bifold/sem", byteOffset := 0 }, { name := "code", type := 41, offset := 1, embedded := false, tag := "", pkgPath := "bifold/sem", byteOffset := 8 }] := by
    unfold Program.fieldsOf; rw [Tryd.underlying73]
  rw [run_equalIn_struct w 9999 73 _ _ (by rw [hf]; exact Tryd.underlying73) (by kernel_rfl), hf]
  have i3 := Tryd.underlying3
  have i4 := Tryd.underlying41
  simp only [Op.eqFields, Sem.run_bind, partI i3 #[.int .i64 a.1, .int .u64 a.2] 0 (.int .i64 a.1) rfl, partI i3 #[.int .i64 b.1, .int .u64 b.2] 0 (.int .i64 b.1) rfl, partI i4 #[.int .i64 a.1, .int .u64 a.2] 1 (.int .u64 a.2) rfl, partI i4 #[.int .i64 b.1, .int .u64 b.2] 1 (.int .u64 b.2) rfl, Result.andThen_ok,
    eqI i3 _ _ 9998, eqI i4 _ _ 9998, Sem.run_ite, Sem.run_pure]
  obtain ⟨a1, a2⟩ := a
  obtain ⟨b1, b2⟩ := b
  by_cases h1 : a1 = b1 <;> by_cases h2 : a2 = b2 <;> simp [h1, h2]
theorem check_ck (n : Nat) (e : Bool) (k : Int × Int) (w : World) : (Instr.checkKey e (n + 1 + 1) 73 (ckey k)).run Tryd.prog w = .ok () w := by
  have i3 := Tryd.underlying3
  have i4 := Tryd.underlying41
  have h1 : (Instr.checkKey e (n + 1) 3 (.int .i64 k.1)).run Tryd.prog w = .ok () w := by simp [Instr.checkKey, run_underlying i3]
  have h2 : (Instr.checkKey e (n + 1) 41 (.int .u64 k.2)).run Tryd.prog w = .ok () w := by simp [Instr.checkKey, run_underlying i4]
  unfold ckey
  unfold Instr.checkKey
  simp only [Sem.run_bind, run_underlying Tryd.underlying73, Result.andThen_ok]
  rw [← Array.forIn_toList]
  simp only [List.forIn_cons, List.forIn_nil, Sem.run_bind, Sem.run_ite, partI i3 #[.int .i64 k.1, .int .u64 k.2] 0 (.int .i64 k.1) rfl, Result.andThen_ok, Sem.run_pure]
  simp [h1]
  rw [partI i4 #[.int .i64 k.1, .int .u64 k.2] 1 (.int .u64 k.2) rfl]
  simp [h2]
theorem ckl : KeyLaw Tryd.prog 73 ckey where
  check := fun e k w => check_ck 9998 e k w
  find := find_asking Tryd.underlying73 (fun a b => rfl) (fun a b w => run_eq_ck a b w)
  same := fun k => by
    show ((#[Value.int .i64 k.1, .int .u64 k.2] : Array Value).size == (#[Value.int .i64 k.1, .int .u64 k.2] : Array Value).size && _) = true
    simp [Instr.sameBits]
theorem uCl : Tryd.prog.underlying 74 = some (.map 73 3) := Tryd.underlying74
def cents : List ((Int × Int) × Value) := [((2, 1), .int .i64 1), ((3, 270), .int .i64 1), ((2, 11), .int .i64 2), ((3, 263), .int .i64 2)]
/-- a map that holds some of these, and no others -/
structure CEnts (l : List ((Int × Int) × Value)) (a b c d : Bool) : Prop where
  get : ∀ q, getE q l = if q = (2, 1) ∧ a = true then some (.int .i64 1) else if q = (3, 270) ∧ b = true then some (.int .i64 1) else if q = (2, 11) ∧ c = true then some (.int .i64 2) else if q = (3, 263) ∧ d = true then some (.int .i64 2) else none
theorem CEnts.nil : CEnts [] false false false false := ⟨fun q => by simp [getE, idx]⟩
section
variable {l : List ((Int × Int) × Value)} {a b c d : Bool}
theorem CEnts.p1 (h : CEnts l a b c d) : CEnts (putE (2, 1) (.int .i64 1) l) true b c d := ⟨fun q => by
  rw [getE_put, h.get]
  by_cases e : q = (2, 1)
  · subst e; simp
  · simp [e]⟩
theorem CEnts.p2 (h : CEnts l a b c d) : CEnts (putE (3, 270) (.int .i64 1) l) a true c d := ⟨fun q => by
  rw [getE_put, h.get]
  by_cases e : q = (3, 270)
  · subst e; simp
  · simp [e]⟩
theorem CEnts.p3 (h : CEnts l a b c d) : CEnts (putE (2, 11) (.int .i64 2) l) a b true d := ⟨fun q => by
  rw [getE_put, h.get]
  by_cases e : q = (2, 11)
  · subst e; simp
  · simp [e]⟩
theorem CEnts.p4 (h : CEnts l a b c d) : CEnts (putE (3, 263) (.int .i64 2) l) a b c true := ⟨fun q => by
  rw [getE_put, h.get]
  by_cases e : q = (3, 263)
  · subst e; simp
  · simp [e]⟩
theorem CEnts.all (h : CEnts l true true true true) (s c : Int) : (getE (s, c) l).getD (.int .i64 0) = .int .i64 (clsN s c : Nat) := by
  rw [h.get]
  unfold clsN
  simp only [Prod.mk.injEq, and_true]
  by_cases h1 : s = 2 ∧ c = 1
  · rw [if_pos h1, if_pos (.inl h1)]; rfl
  by_cases h2 : s = 3 ∧ c = 270
  · rw [if_neg h1, if_pos h2, if_pos (.inr h2)]; rfl
  by_cases h3 : s = 2 ∧ c = 11
  · rw [if_neg h1, if_neg h2, if_pos h3, if_neg (by omega), if_pos (.inl h3)]; rfl
  by_cases h4 : s = 3 ∧ c = 263
  · rw [if_neg h1, if_neg h2, if_neg h3, if_pos h4, if_neg (by omega), if_pos (.inr h4)]; rfl
  · rw [if_neg h1, if_neg h2, if_neg h3, if_neg h4, if_neg (by omega), if_neg (by omega)]; rfl
end
def CM (w w' : World) (a b c d : Bool) : Prop := Frm (New w) w w' ∧ ∃ l, MapIs w' w.heap.size ckey l ∧ CEnts l a b c d
theorem CM.frm {w w' : World} {a b c d : Bool} (h : CM w w' a b c d) : Frm (New w) w w' := h.1
section
variable {w w' : World} {a b c d : Bool}
theorem CM.put (h : CM w w' a b c d) (p : Int × Int) (v : Value) (a' b' c' d' : Bool) (hp : ∀ l, CEnts l a b c d → CEnts (putE p v l) a' b' c' d') :
    ∃ w2, (Instr.mapUpdate 74 (.map (some w.heap.size)) (ckey p) v).run Tryd.prog w' = .ok () w2 ∧ CM w w2 a' b' c' d' := by
  obtain ⟨hF, l, hm, hc⟩ := h
  obtain ⟨w1, hu1, hm1, hF1, hs1⟩ := run_update ckl uCl hm p v
  exact ⟨w1, hu1, hF.trans (hF1.mono (fun k hk => by subst hk; unfold New; exact Nat.le_refl _)), _, hm1, hp l hc⟩
end
set_option maxRecDepth 100000 in
set_option maxHeartbeats 1000000 in
theorem class_any (s c : Int) (w : World) :
    Calls Tryd.prog 21 #[.int .i64 s, .int .u64 c] w fun e w' => e = .returned (.int .i64 (clsN s c : Nat)) ∧ Frm (New w) w w' := by
  obtain ⟨r, hr⟩ : ∃ r, r = clsN s c := ⟨_, rfl⟩
  rw [← hr]
  have hmk : (Instr.makeMap 74 none).run Tryd.prog w.drew = .ok (.map (some w.heap.size)) (w.alloc (.map #[] 0)).drew := rfl
  have HM : Hid (CM w (w.alloc (.map #[] 0)).drew false false false false) := Lib.hid ⟨((Frm.refl (New w) w).alloc Up.new _).drew, [], MapIs.new w.drew ckey, CEnts.nil⟩
  have HR := Lib.hid hr
  clear hr
  go_enter Tryd.func21, Tryd.ntmps21
  go_upto_region 1 with (fail)
  go_cut [5] from 6 (fun v5 w' => v5 = .map (some w.heap.size) ∧ Hid (CM w w' true true true true))
  case first =>
    go_region_with (first
      | (obtain ⟨wN, hu, hmN⟩ := HM.out.put (2, 1) (.int .i64 1) _ _ _ _ (fun l h => h.p1); simp only [ckey] at hu; rw [hu]; clear hu; replace HM := Lib.hid hmN; clear hmN)
      | (obtain ⟨wN, hu, hmN⟩ := HM.out.put (3, 270) (.int .i64 1) _ _ _ _ (fun l h => h.p2); simp only [ckey] at hu; rw [hu]; clear hu; replace HM := Lib.hid hmN; clear hmN)
      | (obtain ⟨wN, hu, hmN⟩ := HM.out.put (2, 11) (.int .i64 2) _ _ _ _ (fun l h => h.p3); simp only [ckey] at hu; rw [hu]; clear hu; replace HM := Lib.hid hmN; clear hmN)
      | (obtain ⟨wN, hu, hmN⟩ := HM.out.put (3, 263) (.int .i64 2) _ _ _ _ (fun l h => h.p4); simp only [ckey] at hu; rw [hu]; clear hu; replace HM := Lib.hid hmN; clear hmN)
      | fail)
    all_goals go_wp2_with (fail)
    all_goals go_meet
    all_goals exact ⟨rfl, HM⟩
  case rest =>
    obtain ⟨rfl, hCM⟩ := hcut
    rename World => w4
    obtain ⟨hF, l, hm, hc⟩ := hCM.out
    have hlk := run_lookup ckl uCl zInt hm (s, c) false
    simp only [Bool.false_eq_true, if_false, hc.all] at hlk
    rw [← HR.out] at hlk
    simp only [ckey] at hlk
    clear hm hc hCM
    have HF := Lib.hid hF
    clear hF
    go_wp2_with (fail)
    go_ret
    exact ⟨rfl, HF.out⟩
end Go.Proofs.YtpojejdddgdjdaaDoor.M
