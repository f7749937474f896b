/- The document's Buffer: Read. Fewer than 2^46 bytes. -/
import Derived.BigQuiet
import Derived.Deep.CutBlock
import Derived.Lib.Hide
import Derived.IntWalk
import Derived.Deep.QuietTactic
import Derived.StillTailTactics
import Derived.Test.YtljleaomlooiaaaRf2
import Derived.Test.YtljleaomlooiaaaRre
namespace Go.Proofs.Ytljleaomlooiaaa.M
open Go.ChangeShapes Go.WideShapes Go.ChangeAt Go.RowKit

theorem one_cell (v : Value) (h : v.oneCell' = true) : ∀ u ∈ #[v].toList, u.oneCell' = true := fun u hu => by simp at hu; rw [hu]; exact h
theorem getE_mem {ν : Type} {k : Nat} {v : ν} : ∀ {e : List (Nat × ν)}, getE k e = some v → (k, v) ∈ e ∧ (delE k e).length + 1 = e.length ∧ (∀ q ∈ delE k e, q ∈ e)
  | [], h => by simp at h
  | p :: r, h => by
    rw [getE_cons] at h
    unfold delE
    by_cases hk : k = p.1
    · rw [if_pos hk] at h
      rw [if_pos hk]
      injection h with h
      refine ⟨?_, rfl, fun q hq => List.mem_cons_of_mem _ hq⟩
      rw [hk, ← h]
      exact List.mem_cons_self
    · rw [if_neg hk] at h
      rw [if_neg hk]
      obtain ⟨h1, h2, h3⟩ := getE_mem h
      refine ⟨List.mem_cons_of_mem _ h1, by simp only [List.length_cons]; omega, fun q hq => ?_⟩
      rcases List.mem_cons.1 hq with rfl | hq
      · exact List.mem_cons_self
      · exact List.mem_cons_of_mem _ (h3 q hq)
theorem rread_step {ν : Type} (n a : Nat) (e : List (Nat × ν)) (v : ν) (h : getE a e = some v) : rread (n + 1) a e = (v :: (rread n (a + 1) (delE a e)).1, (rread n (a + 1) (delE a e)).2) := by
  conv => lhs; unfold rread
  rw [h]
theorem rread_none {ν : Type} (n a : Nat) (e : List (Nat × ν)) (h : getE a e = none) : rread n a e = ([], e) := by
  cases n with
  | zero => rfl
  | succ n => unfold rread; rw [h]
theorem run_lookupE {κ : Type} [DecidableEq κ] {P : Program} {enc : κ → Value} {T M E : TypeId} {w : World} {b : Nat} {ents : List (κ × Value)} {o : Oper} {a : Act} (K : KeyLaw P T enc) (hM : P.underlying M = some (.map T E)) {z : Value} (hz : (P.info? E).map (·.zero) = some (some z)) {x y : Operand} {ok : Bool} (ho : o.op = .lookup M x y ok)
    (hx : a.eval x = .map (some b)) {k : κ} (hy : a.eval y = enc k) (h : MapIs w b enc ents) : (execOp a.eval o).run P w = .ok (.value (if ok then .tuple #[(getE k ents).getD z, .bool (getE k ents).isSome] else (getE k ents).getD z)) w := by
  have hr := run_lookup K hM hz h k ok
  unfold execOp
  simp only [ho, hx, hy, Sem.run_bind, hr, Result.andThen_ok, Sem.run_pure]
theorem RfAt.setmap {S : Nat → Prop} {w w' : World} {p m : Nat} {F : Rf} {es2 : List (Nat × Value)} (h : RfAt S w p F m) (hm : MapIs w' m ukey es2) (f : Frm (fun k => k = m) w w') : RfAt S w' p { F with es := es2 } m :=
  ⟨h.blk.keep f h.qm, hm, h.sq, h.sm, h.qm, fun k hk => Nat.lt_of_lt_of_le (h.low k hk) f.size⟩
/-- what the document's Read leaves -/
def RReadR (S : Nat → Prop) (w : World) (p m : Nat) (F : Rf) (n : Int) (e : Ending) (w' : World) : Prop :=
  ∃ Ao co, e = .returned (.slice Ao (rread n.toNat F.a F.es).1.length co) ∧ App (New w) w' 5 1 Ao (rread n.toNat F.a F.es).1.length co (rread n.toNat F.a F.es).1 ∧
    RfAt S w' p { F with a := F.a + (rread n.toNat F.a F.es).1.length, es := (rread n.toNat F.a F.es).2 } m ∧ Frm (Own S w) w w'

set_option maxRecDepth 100000 in
set_option maxHeartbeats 2000000 in
theorem rread_any {S : Nat → Prop} {p m : Nat} {F : Rf} (n : Int) (w : World) (h : RfAt S w p F m) (hv : ∀ q ∈ F.es, (∃ x, q.2 = bv x) ∧ q.1 < 4611686018427387904) (hn : -9223372036854775808 ≤ n ∧ n ≤ 9223372036854775807) (hq : F.es.length ≤ 1099511627776) :
    Calls Try.prog 17 #[.pointer (some ⟨p, 0, none⟩), .int .i64 n] w (RReadR S w p m F n) := by
  generalize hQ : RReadR S w p m F n = Q
  have HQ := Lib.hid hQ
  clear hQ
  have hlow := h.low
  have hU : Up (New w) w := Up.new
  obtain ⟨R, hR⟩ : ∃ R, R = rread n.toNat F.a F.es := ⟨_, rfl⟩
  have H := Lib.hid h
  have HV := Lib.hid hv
  have HLOW := Lib.hid hlow
  have HU := Lib.hid hU
  have HR := Lib.hid hR
  clear h hv hlow hU hR
  go_enter Try.func17, Try.ntmps17
  go_upto_region 2 with (fail)
  go_loopw [5] (fun v5 wr => ∃ (out : List Value) (Ao : Option Addr) (co : Nat) (es : List (Nat × Value)), out.length ≤ n.toNat ∧ v5 = .slice Ao out.length co ∧ es.length + out.length = F.es.length ∧ Hid (App (New w) wr 5 1 Ao out.length co out) ∧
      Hid (RfAt S wr p { F with a := F.a + out.length, es := es } m) ∧ Hid (R.1 = out ++ (rread (n.toNat - out.length) (F.a + out.length) es).1 ∧ R.2 = (rread (n.toNat - out.length) (F.a + out.length) es).2) ∧ Hid (∀ q ∈ es, q ∈ F.es) ∧ Hid (Frm (Own S w) w wr)) (fun v5 _ => F.es.length - lenV v5)
  case atStart =>
    refine ⟨[], none, 0, F.es, Nat.zero_le _, rfl, rfl, App.none_, H, ?_, fun q hq => hq, Frm.refl _ _⟩
    rw [HR.out]
    exact ⟨rfl, rfl⟩
  case round =>
    obtain ⟨out, Ao, co, es, hd, rfl, hel, hAo, hrf, hRR, hin, hF⟩ := hrel
    obtain ⟨a1, ha1⟩ : ∃ a1, a1 = F.a + out.length := ⟨_, rfl⟩
    rw [← ha1] at hrf hRR
    obtain ⟨d, hdd⟩ : ∃ d, d = out.length := ⟨_, rfl⟩
    have hbb := hrf.out.blk
    unfold Rf.cells at hbb
    have hd1 := hbb.cell 1
    have hd2 := hbb.cell 2
    simp only [List.getElem?_toArray, List.getElem?_cons_zero, List.getElem?_cons_succ] at hd1 hd2
    have hp := hbb.lt
    have hfin : R.1 = out → R.2 = es → RReadR S w p m F n (.returned (.slice Ao d co)) wr := fun e1 e2 => by
      rw [HR.out] at e1 e2
      subst hdd
      unfold RReadR
      rw [e1, e2, ← ha1]
      exact ⟨Ao, co, rfl, hAo.out, hrf.out, hF.out⟩
    have hfin2 : ∀ q, R.1 = out → R.2 = es → RReadR S w p m F n (.returned (.slice Ao d co)) (wr.drewN q) := fun q e1 e2 => by
      rw [HR.out] at e1 e2
      subst hdd
      unfold RReadR
      rw [e1, e2, ← ha1]
      exact ⟨Ao, co, rfl, hAo.out.drewN q, hrf.out.fresh ((Frm.refl (New wr) wr).drewN q), hF.out.drewN q⟩
    rw [HQ.out] at hfin hfin2
    rw [← hdd] at hd hel
    simp only [← hdd]
    have HFIN := Lib.hid hfin
    have HFIN2 := Lib.hid hfin2
    have HBB := Lib.hid hbb
    clear hfin hfin2 hbb
    by_cases hdn : (d : Int) < n
    · cases hg : getE a1 es with
      | none =>
        have hS : wr.drew.cell? ⟨p, 1, none⟩ = some (.map (some m)) ∧ wr.drew.cell? ⟨p, 2, none⟩ = some (.int .u64 a1) ∧ MapIs wr.drew m ukey es := ⟨hd1, hd2, hrf.out.map.fresh ((Frm.refl (New wr) wr).drew)⟩
        have hrv : R.1 = out ∧ R.2 = es := by
          obtain ⟨e1, e2⟩ := hRR.out
          rw [rread_none _ _ _ hg] at e1 e2
          rw [List.append_nil] at e1
          exact ⟨e1, e2⟩
        have hlk := fun (o : Oper) (a : Act) (w' : World) (x y : Operand) (ho : o.op = .lookup 46 x y true) (hx : a.eval x = .map (some m)) (hy : a.eval y = ukey a1) (hm : MapIs w' m ukey es) => run_lookupE ukeys Try.underlying46 zu8 ho hx hy hm
        rw [hg] at hlk
        simp only [Option.getD_none, Option.isSome_none, if_true] at hlk
        have HG := Lib.hid hg
        have HRV := Lib.hid hrv
        have HLK := Lib.hid hlk
        have HA1 := Lib.hid ha1
        have HDD := Lib.hid hdd
        clear hg hrv hlk ha1 hdd
        go_upto_region 3 with (fail)
        refine wp_region_til (by kernel_rfl) (fun w' => w'.cell? ⟨p, 1, none⟩ = some (.map (some m)) ∧ w'.cell? ⟨p, 2, none⟩ = some (.int .u64 a1) ∧ MapIs w' m ukey es) 13 ?_
        refine wpAnyT_take (i := 0) (v := ?_) (d := some 13) rfl (by rfl) (by kernel_rfl) (fun _ _ _ h => h) (by rfl) hS (fun w hSw => ?_) ?_
        rotate_left
        · (try dsimp only at hSw); go_simp; first | done | (with_reducible rfl)
        simp only [Act.put, List.setIfInBounds_toArray, List.set_cons_zero, List.set_cons_succ]
        refine wpAnyT_take (i := 1) (v := ?_) (d := some 14) rfl (by rfl) (by kernel_rfl) (fun _ _ _ h => h) (by rfl) hS (fun w hSw => ?_) ?_
        rotate_left
        · (try dsimp only at hSw); go_simp; first | done | (with_reducible rfl)
        simp only [Act.put, List.setIfInBounds_toArray, List.set_cons_zero, List.set_cons_succ]
        refine wpAnyT_take (i := 2) (v := ?_) (d := some 15) rfl (by rfl) (by kernel_rfl) (fun _ _ _ h => h) (by rfl) hS (fun w hSw => ?_) ?_
        rotate_left
        · (try dsimp only at hSw); go_simp; first | done | (with_reducible rfl)
        simp only [Act.put, List.setIfInBounds_toArray, List.set_cons_zero, List.set_cons_succ]
        refine wpAnyT_take (i := 3) (v := ?_) (d := some 16) rfl (by rfl) (by kernel_rfl) (fun _ _ _ h => h) (by rfl) hS (fun w hSw => ?_) ?_
        rotate_left
        · (try dsimp only at hSw); go_simp; first | done | (with_reducible rfl)
        simp only [Act.put, List.setIfInBounds_toArray, List.set_cons_zero, List.set_cons_succ]
        refine wpAnyT_take (i := 4) (v := ?_) (d := some 17) rfl (by rfl) (by kernel_rfl) (fun _ _ _ h => h) (by rfl) hS (fun w hSw => ?_) ?_
        rotate_left
        · (try dsimp only at hSw); go_simp; first | done | (with_reducible rfl)
        simp only [Act.put, List.setIfInBounds_toArray, List.set_cons_zero, List.set_cons_succ]
        refine wpAnyT_take (i := 5) (v := ?_) (d := some 18) rfl (by rfl) (by kernel_rfl) (fun _ _ _ h => h) (by rfl) hS (fun w hSw => ?_) ?_
        rotate_left
        · (try dsimp only at hSw); go_simp; first | done | (with_reducible rfl)
        simp only [Act.put, List.setIfInBounds_toArray, List.set_cons_zero, List.set_cons_succ]
        refine wpAnyT_take (i := 6) (v := ?_) (d := some 19) rfl (by rfl) (by kernel_rfl) (fun _ _ _ h => h) (by rfl) hS (fun w hSw => ?_) ?_
        rotate_left
        · (try dsimp only at hSw); go_simp; first | done | (with_reducible rfl)
        simp only [Act.put, List.setIfInBounds_toArray, List.set_cons_zero, List.set_cons_succ]
        refine wpAnyT_take (i := 7) (v := ?_) (d := some 20) rfl (by rfl) (by kernel_rfl) (fun _ _ _ h => h) (by rfl) hS (fun w hSw => ?_) ?_
        rotate_left
        · (try dsimp only at hSw); go_simp; first | done | (with_reducible rfl)
        simp only [Act.put, List.setIfInBounds_toArray, List.set_cons_zero, List.set_cons_succ]
        refine wpAnyT_take (i := 8) (v := .tuple #[.int .u8 0, .bool false]) (d := some 21) rfl (by rfl) (by kernel_rfl) (fun _ _ _ h => h) (by rfl) hS (fun w' hSw => HLK.out _ _ w' _ _ rfl rfl rfl hSw.2.2) ?_
        simp only [Act.put, List.setIfInBounds_toArray, List.set_cons_zero, List.set_cons_succ]
        refine wpAnyT_take (i := 9) (v := ?_) (d := some 12) rfl (by rfl) (by kernel_rfl) (fun _ _ _ h => h) (by rfl) hS (fun w hSw => ?_) ?_
        rotate_left
        · (try dsimp only at hSw); go_simp; first | done | (with_reducible rfl)
        simp only [Act.put, List.setIfInBounds_toArray, List.set_cons_zero, List.set_cons_succ]
        refine wpAnyT_take (i := 10) (v := ?_) (d := some 22) rfl (by rfl) (by kernel_rfl) (fun _ _ _ h => h) (by rfl) hS (fun w hSw => ?_) ?_
        rotate_left
        · (try dsimp only at hSw); go_simp; first | done | (with_reducible rfl)
        simp only [Act.put, List.setIfInBounds_toArray, List.set_cons_zero, List.set_cons_succ]
        refine wpAnyT_take (i := 11) (v := ?_) (d := some 23) rfl (by rfl) (by kernel_rfl) (fun _ _ _ h => h) (by rfl) hS (fun w hSw => ?_) ?_
        rotate_left
        · (try dsimp only at hSw); go_simp; first | done | (with_reducible rfl)
        simp only [Act.put, List.setIfInBounds_toArray, List.set_cons_zero, List.set_cons_succ]
        refine wpAnyT_one (i := 12) rfl (by kernel_rfl) (fun K hK => ?_)
        go_simp
        refine hK.out _ _ (.inr (hS)) ?_
        clear hK K
        refine wpAnyT_one (i := 13) rfl (by kernel_rfl) (fun K hK => ?_)
        go_simp
        refine hK.out _ _ (.inl (by kernel_rfl)) ?_
        clear hK K
        refine wpAnyT_done (by kernel_rfl) ?_ _
        go_wp2
        exact HFIN2.out 1 HRV.out.1 HRV.out.2
      | some v =>
        have hS : wr.drew.cell? ⟨p, 1, none⟩ = some (.map (some m)) ∧ wr.drew.cell? ⟨p, 2, none⟩ = some (.int .u64 a1) ∧ MapIs wr.drew m ukey es := ⟨hd1, hd2, hrf.out.map.fresh ((Frm.refl (New wr) wr).drew)⟩
        obtain ⟨hmem, hlen, hsub⟩ := getE_mem hg
        obtain ⟨⟨x, hx⟩, hlt⟩ := HV.out _ (hin.out _ hmem)
        simp only [bv] at hx hlt
        subst hx
        have hrv : R.1 = (out ++ [.int .u8 (x.toNat : Int)]) ++ (rread (n.toNat - (out.length + 1)) (a1 + 1) (delE a1 es)).1 ∧ R.2 = (rread (n.toNat - (out.length + 1)) (a1 + 1) (delE a1 es)).2 := by
          obtain ⟨e1, e2⟩ := hRR.out
          rw [show n.toNat - out.length = (n.toNat - (out.length + 1)) + 1 by omega, rread_step _ _ _ _ hg] at e1 e2
          rw [List.append_assoc]
          exact ⟨e1, e2⟩
        have hsub2 : ∀ q ∈ delE a1 es, q ∈ F.es := fun q hq => hin.out q (hsub q hq)
        have hlk := fun (o : Oper) (a : Act) (w' : World) (x y : Operand) (ho : o.op = .lookup 46 x y true) (hx : a.eval x = .map (some m)) (hy : a.eval y = ukey a1) (hm : MapIs w' m ukey es) => run_lookupE ukeys Try.underlying46 zu8 ho hx hy hm
        rw [hg] at hlk
        simp only [Option.getD_some, Option.isSome_some, if_true] at hlk
        clear hmem hsub
        have HG := Lib.hid hg
        have HRV := Lib.hid hrv
        have HLK := Lib.hid hlk
        have HA1 := Lib.hid ha1
        have HDD := Lib.hid hdd
        have HSUB2 := Lib.hid hsub2
        clear hg hrv hlk ha1 hdd hsub2
        go_upto_region 3 with (fail)
        refine wp_region_til (by kernel_rfl) (fun w' => w'.cell? ⟨p, 1, none⟩ = some (.map (some m)) ∧ w'.cell? ⟨p, 2, none⟩ = some (.int .u64 a1) ∧ MapIs w' m ukey es) 13 ?_
        refine wpAnyT_take (i := 0) (v := ?_) (d := some 13) rfl (by rfl) (by kernel_rfl) (fun _ _ _ h => h) (by rfl) hS (fun w hSw => ?_) ?_
        rotate_left
        · (try dsimp only at hSw); go_simp; first | done | (with_reducible rfl)
        simp only [Act.put, List.setIfInBounds_toArray, List.set_cons_zero, List.set_cons_succ]
        refine wpAnyT_take (i := 1) (v := ?_) (d := some 14) rfl (by rfl) (by kernel_rfl) (fun _ _ _ h => h) (by rfl) hS (fun w hSw => ?_) ?_
        rotate_left
        · (try dsimp only at hSw); go_simp; first | done | (with_reducible rfl)
        simp only [Act.put, List.setIfInBounds_toArray, List.set_cons_zero, List.set_cons_succ]
        refine wpAnyT_take (i := 2) (v := ?_) (d := some 15) rfl (by rfl) (by kernel_rfl) (fun _ _ _ h => h) (by rfl) hS (fun w hSw => ?_) ?_
        rotate_left
        · (try dsimp only at hSw); go_simp; first | done | (with_reducible rfl)
        simp only [Act.put, List.setIfInBounds_toArray, List.set_cons_zero, List.set_cons_succ]
        refine wpAnyT_take (i := 3) (v := ?_) (d := some 16) rfl (by rfl) (by kernel_rfl) (fun _ _ _ h => h) (by rfl) hS (fun w hSw => ?_) ?_
        rotate_left
        · (try dsimp only at hSw); go_simp; first | done | (with_reducible rfl)
        simp only [Act.put, List.setIfInBounds_toArray, List.set_cons_zero, List.set_cons_succ]
        refine wpAnyT_take (i := 4) (v := ?_) (d := some 17) rfl (by rfl) (by kernel_rfl) (fun _ _ _ h => h) (by rfl) hS (fun w hSw => ?_) ?_
        rotate_left
        · (try dsimp only at hSw); go_simp; first | done | (with_reducible rfl)
        simp only [Act.put, List.setIfInBounds_toArray, List.set_cons_zero, List.set_cons_succ]
        refine wpAnyT_take (i := 5) (v := ?_) (d := some 18) rfl (by rfl) (by kernel_rfl) (fun _ _ _ h => h) (by rfl) hS (fun w hSw => ?_) ?_
        rotate_left
        · (try dsimp only at hSw); go_simp; first | done | (with_reducible rfl)
        simp only [Act.put, List.setIfInBounds_toArray, List.set_cons_zero, List.set_cons_succ]
        refine wpAnyT_take (i := 6) (v := ?_) (d := some 19) rfl (by rfl) (by kernel_rfl) (fun _ _ _ h => h) (by rfl) hS (fun w hSw => ?_) ?_
        rotate_left
        · (try dsimp only at hSw); go_simp; first | done | (with_reducible rfl)
        simp only [Act.put, List.setIfInBounds_toArray, List.set_cons_zero, List.set_cons_succ]
        refine wpAnyT_take (i := 7) (v := ?_) (d := some 20) rfl (by rfl) (by kernel_rfl) (fun _ _ _ h => h) (by rfl) hS (fun w hSw => ?_) ?_
        rotate_left
        · (try dsimp only at hSw); go_simp; first | done | (with_reducible rfl)
        simp only [Act.put, List.setIfInBounds_toArray, List.set_cons_zero, List.set_cons_succ]
        refine wpAnyT_take (i := 8) (v := .tuple #[.int .u8 (x.toNat : Int), .bool true]) (d := some 21) rfl (by rfl) (by kernel_rfl) (fun _ _ _ h => h) (by rfl) hS (fun w' hSw => HLK.out _ _ w' _ _ rfl rfl rfl hSw.2.2) ?_
        simp only [Act.put, List.setIfInBounds_toArray, List.set_cons_zero, List.set_cons_succ]
        refine wpAnyT_take (i := 9) (v := ?_) (d := some 12) rfl (by rfl) (by kernel_rfl) (fun _ _ _ h => h) (by rfl) hS (fun w hSw => ?_) ?_
        rotate_left
        · (try dsimp only at hSw); go_simp; first | done | (with_reducible rfl)
        simp only [Act.put, List.setIfInBounds_toArray, List.set_cons_zero, List.set_cons_succ]
        refine wpAnyT_take (i := 10) (v := ?_) (d := some 22) rfl (by rfl) (by kernel_rfl) (fun _ _ _ h => h) (by rfl) hS (fun w hSw => ?_) ?_
        rotate_left
        · (try dsimp only at hSw); go_simp; first | done | (with_reducible rfl)
        simp only [Act.put, List.setIfInBounds_toArray, List.set_cons_zero, List.set_cons_succ]
        refine wpAnyT_take (i := 11) (v := ?_) (d := some 23) rfl (by rfl) (by kernel_rfl) (fun _ _ _ h => h) (by rfl) hS (fun w hSw => ?_) ?_
        rotate_left
        · (try dsimp only at hSw); go_simp; first | done | (with_reducible rfl)
        simp only [Act.put, List.setIfInBounds_toArray, List.set_cons_zero, List.set_cons_succ]
        refine wpAnyT_one (i := 12) rfl (by kernel_rfl) (fun K hK => ?_)
        go_simp
        refine hK.out _ _ (.inr (hS)) ?_
        clear hK K
        refine wpAnyT_one (i := 13) rfl (by kernel_rfl) (fun K hK => ?_)
        go_simp
        refine hK.out _ _ (.inl (by kernel_rfl)) ?_
        clear hK K
        refine wpAnyT_done (by kernel_rfl) ?_ _
        have hrf3 := hrf.out.fresh ((Frm.refl (New wr) wr).drew)
        have hAo3 := hAo.out.fresh ((Frm.refl (New wr) wr).drew)
        have hF3 := hF.out.drew
        have hd1' := hS.1
        have hd2' := hS.2.1
        have hp' : p < wr.drew.heap.size := hp
        clear hd1 hd2 hp hrf hAo hF hS HFIN HFIN2 HBB
        generalize wr.drew = w3 at *
        have HF3 := Lib.hid hF3
        clear hF3
        go_upto_region 5 with (fail)
        go_still_tail 8, (by kernel_rfl)
        change wpList _ _ _ _ _ w3.drew
        refine wpList_delete ukeys Try.underlying46 rfl rfl rfl (k := a1) rfl (hrf3.map.fresh (Frm.refl _ _).drew) ?_
        intro w5 hm5 hF5 hs5
        have hdr : Frm (New w3) w3 w3.drew := (Frm.refl (New w3) w3).drew
        have hrf5 := (hrf3.fresh hdr).setmap hm5 hF5
        have hAo5 := (hAo3.fresh hdr).keep hF5 (fun q hq e => by
          have h1 := hAo3.inM q hq
          have h2 := HLOW.out m hrf3.sm
          unfold New at h1
          omega)
        rw [← HDD.out] at hAo5
        have hF05 : Frm (Own S w) w w5 := (HF3.out.drew).trans (hF5.mono (fun q hq => by rw [hq]; exact .inl H.out.sm))
        have hu5 : Up (New w) w5 := HU.out.of hF05.size
        clear hd1' hd2' hp' hs5 hm5 hF5 hdr hrf3 hAo3
        have HRF5 := Lib.hid hrf5
        have HAO5 := Lib.hid hAo5
        have HF05 := Lib.hid hF05
        have HU5 := Lib.hid hu5
        clear hrf5 hAo5 hF05 hu5
        go_upto_region 7 with (at_builtin; refine wpList_append_lit u8s rfl rfl rfl HAO5.out HU5.out rfl rfl (one_cell _ rfl) (by omega) ?_; intro A6 c6 w6 hA6 hF6 _ hW6)
        have hrf6 := HRF5.out.keep hF6 (fun q hq c => by have := HLOW.out q hq; unfold New at c; omega)
        have hF06 := HF05.out.trans (hF6.mono (fun q hq => (.inr hq : Own S w q)))
        have hbb := hrf6.blk
        unfold Rf.cells at hbb
        have hd2 := hbb.cell 2
        simp only [List.getElem?_toArray, List.getElem?_cons_zero, List.getElem?_cons_succ] at hd2
        have hp := hbb.lt
        have hz2 := hbb.frozen 2
        have hb7 := hbb.set_ 2 (.int .u64 ((a1 : Int) + 1))
        have hF7 : Frm (fun q => q = p) w6 (w6.setCell ⟨p, 2, none⟩ (.int .u64 ((a1 : Int) + 1))) := (Frm.refl (fun q => q = p) w6).setCell (p := ⟨p, 2, none⟩) rfl _
        have hrf7 : RfAt S (w6.setCell ⟨p, 2, none⟩ (.int .u64 ((a1 : Int) + 1))) p { F with a := a1 + 1, es := delE a1 es } m := hrf6.head hb7 rfl hF7
        have hA7 := hA6.keep hF7 (fun q hq e => by
          have h1 := hA6.inM q hq
          have h2 := HLOW.out p H.out.sq
          unfold New at h1
          omega)
        have hF07 := hF06.trans (hF7.mono (fun q hq => (by rw [hq]; exact .inl H.out.sq : Own S w q)))
        have hw1 : IntKind.u64.wrap ((a1 : Int) + 1) = (a1 : Int) + 1 := IntWalk.u64_in _ (by omega)
        have hdl : (out ++ [Value.int .u8 (x.toNat : Int)]).length = d + 1 := by rw [List.length_append, HDD.out]; rfl
        clear hbb hF06 hA6 hF6 hW6 hb7 hF7 hrf6
        have HRF7 := Lib.hid hrf7
        have HA7 := Lib.hid hA7
        have HF07 := Lib.hid hF07
        have HDL := Lib.hid hdl
        clear hrf7 hA7 hF07 hdl
        go_wp2
        go_roundw
        case rel =>
          refine ⟨out ++ [.int .u8 (x.toNat : Int)], A6, c6, delE a1 es, by rw [HDL.out]; omega, by rw [HDL.out], by rw [HDL.out]; omega, ?_, ?_, ?_, HSUB2, HF07⟩
          · rw [HDL.out]; exact HA7
          · rw [HDL.out, show F.a + (d + 1) = a1 + 1 by rw [HA1.out, ← HDD.out]; rfl]; exact HRF7
          · rw [HDL.out, show F.a + (d + 1) = a1 + 1 by rw [HA1.out, ← HDD.out]; rfl]
            have := HRV.out
            rw [← HDD.out] at this
            exact this
        case measure => simp [lenV]; omega
    · have e0 : n.toNat - out.length = 0 := by omega
      have HDD := Lib.hid hdd
      have HA1 := Lib.hid ha1
      clear hdd ha1
      go_wp2
      have hrv := hRR.out
      rw [e0] at hrv
      exact HFIN.out (by rw [hrv.1]; show out ++ [] = out; rw [List.append_nil]) hrv.2
end Go.Proofs.Ytljleaomlooiaaa.M
