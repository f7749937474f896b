/- The document's Buffer: Reset, Read, Add. Fewer than 2^46 bytes. -/
import Derived.BigQuiet
import Derived.Deep.CutBlock
import Derived.Lib.Hide
import Derived.IntWalk
import Derived.Deep.QuietTactic
import Derived.Test.YtljleaomlooiaaaRf1
import Derived.Test.YtljleaomlooiaaaReg
import Derived.Test.YtljleaomlooiaaaCut
namespace Go.Proofs.Ytljleaomlooiaaa.M
open Go.ChangeShapes Go.WideShapes Go.ChangeAt Go.RowKit

theorem rchk_zero {F : Rf} {stop : Nat} {over f : Bool} (h : F.chk stop over f = 0) : over = false ∧ stop ≤ F.mx ∧ (F.known = true → stop ≤ F.fin ∧ (f = true → stop = F.fin)) ∧ (f = true → F.en ≤ stop) := by
  unfold Rf.chk at h
  split at h
  · cases h
  · rename_i h1
    split at h
    · cases h
    · rename_i h2
      refine ⟨by cases over with | false => rfl | true => exact absurd (.inl rfl) h1, Nat.le_of_not_lt (fun c => h1 (.inr c)), fun hk => ⟨Nat.le_of_not_lt (fun c => h2 (.inl ⟨hk, .inl c⟩)), fun hf => ?_⟩, fun hf => Nat.le_of_not_lt (fun c => h2 (.inr ⟨hf, c⟩))⟩
      by_cases e : stop = F.fin
      · exact e
      · exact absurd (.inl ⟨hk, .inr ⟨hf, e⟩⟩) h2
def Rf.reset' (F : Rf) (stop : Nat) : Rf := if F.chk stop false true = 0 ∧ F.done = false then ⟨F.mx, [], F.a, stop, stop, true, true⟩ else F
/-- what Reset leaves -/
def RRstR (S : Nat → Prop) (w : World) (p : Nat) (F : Rf) (stop : Nat) (e : Ending) (w' : World) : Prop :=
  e = .returned (.int .i64 (F.chk stop false true : Nat)) ∧ ∃ S' m', RfAt S' w' p (F.reset' stop) m' ∧ Frm (Own S w) w w' ∧ ∀ k, S' k → Own S w k

set_option maxRecDepth 100000 in
set_option maxHeartbeats 2000000 in
theorem rreset_any {S : Nat → Prop} {p m : Nat} {F : Rf} (stop : Nat) (w : World) (h : RfAt S w p F m) :
    Calls Try.prog 18 #[.pointer (some ⟨p, 0, none⟩), .int .u64 stop] w (RRstR S w p F stop) := by
  generalize hQ : RRstR S w p F stop = Q
  have HQ := Lib.hid hQ
  clear hQ
  have hck := rcheck_any F stop false true p m w h.blk
  have hdn := rdone_any F p m w h.blk
  have HCK := Lib.hid hck
  have HDN := Lib.hid hdn
  have H := Lib.hid h
  clear hck hdn h
  by_cases he : F.chk stop false true = 0
  · rw [he] at HCK
    have HE := Lib.hid he
    clear he
    have hb := H.out.blk
    unfold Rf.cells at hb
    have h1 := hb.cell 1
    have h3 := hb.cell 3
    have h4 := hb.cell 4
    have h5 := hb.cell 5
    have h6 := hb.cell 6
    simp only [List.getElem?_toArray, List.getElem?_cons_zero, List.getElem?_cons_succ] at h1 h3 h4 h5 h6
    have hp := hb.lt
    have z1 := hb.frozen 1
    have z3 := hb.frozen 3
    have z4 := hb.frozen 4
    have z5 := hb.frozen 5
    have z6 := hb.frozen 6
    have hsame : ∀ n, (F.done = true) → RRstR S w p F stop (.returned (.int .i64 0)) (w.drewN n) := fun n hd => by
      refine ⟨by rw [HE.out]; rfl, S, m, ?_, (Frm.refl _ w).drewN n, fun k hk => .inl hk⟩
      unfold Rf.reset'
      rw [if_neg (fun c => by rw [hd] at c; cases c.2)]
      exact H.out.fresh ((Frm.refl _ w).drewN n)
    rw [HQ.out] at hsame
    have HB := Lib.hid hb
    have HSAME := Lib.hid hsame
    clear hb hsame
    cases hg : F.gone with
    | true =>
      rw [hg] at h6
      have hs := HSAME.out 0 (by unfold Rf.done; rw [hg]; rfl)
      have HS := Lib.hid hs
      clear hs
      clear hg
      go_enter Try.func18, Try.ntmps18
      go_upto_region 5 with (go_at_call 26; refine HCK.out.mono ?_; rintro e w1 ⟨rfl, hw1⟩; rw [hw1]; clear hw1)
      go_wp2
      exact HS.out
    | false =>
      rw [hg] at h6
      have HG := Lib.hid hg
      clear hg
      cases hd : F.done with
      | true =>
        rw [hd] at HDN
        have hs := fun n => HSAME.out n hd
        have HS := Lib.hid hs
        have HD := Lib.hid hd
        clear hs hd
        go_enter Try.func18, Try.ntmps18
        go_upto_region 5 with (first | (go_at_call 26; refine HCK.out.mono ?_; rintro e w1 ⟨rfl, hw1⟩; rw [hw1]; clear hw1) | (go_at_call 21; refine HDN.out.mono ?_; rintro e w1 ⟨rfl, q, rfl⟩))
        go_wp2
        exact HS.out q
      | false =>
        rw [hd] at HDN
        have HD := Lib.hid hd
        clear hd
        go_enter Try.func18, Try.ntmps18
        go_upto_region 6 with (first | (go_at_call 26; refine HCK.out.mono ?_; rintro e w1 ⟨rfl, hw1⟩; rw [hw1]; clear hw1) | (go_at_call 21; refine HDN.out.mono ?_; rintro e w1 ⟨rfl, q, rfl⟩))
        go_wp2
        rw [run_makeMap]
        go_wp2
        rw [← HQ.out]
        have b5 := (((((HB.out.drewN q).set_ 6 (.bool true)).set_ 4 (.int .u64 stop)).set_ 5 (.bool true)).set_ 3 (.int .u64 stop)).set_ 1 (.map (some w.heap.size))
        have F5 : Frm (fun k => k = p) w ((((((w.drewN q).setCell ⟨p, 6, none⟩ (.bool true)).setCell ⟨p, 4, none⟩ (.int .u64 stop)).setCell ⟨p, 5, none⟩ (.bool true)).setCell ⟨p, 3, none⟩ (.int .u64 stop)).setCell ⟨p, 1, none⟩ (.map (some w.heap.size))) :=
          ((((((Frm.refl (fun k => k = p) w).drewN q).setCell (p := ⟨p, 6, none⟩) rfl _).setCell (p := ⟨p, 4, none⟩) rfl _).setCell (p := ⟨p, 5, none⟩) rfl _).setCell (p := ⟨p, 3, none⟩) rfl _).setCell (p := ⟨p, 1, none⟩) rfl _
        have hs5 : ((((((w.drewN q).setCell ⟨p, 6, none⟩ (.bool true)).setCell ⟨p, 4, none⟩ (.int .u64 stop)).setCell ⟨p, 5, none⟩ (.bool true)).setCell ⟨p, 3, none⟩ (.int .u64 stop)).setCell ⟨p, 1, none⟩ (.map (some w.heap.size))).heap.size = w.heap.size := by simp
        generalize ((((((w.drewN q).setCell ⟨p, 6, none⟩ (.bool true)).setCell ⟨p, 4, none⟩ (.int .u64 stop)).setCell ⟨p, 5, none⟩ (.bool true)).setCell ⟨p, 3, none⟩ (.int .u64 stop)).setCell ⟨p, 1, none⟩ (.map (some w.heap.size))) = w5 at *
        have hm := MapIs.new w5 ukey
        rw [hs5] at hm
        have F6 := (Frm.refl (New w5) w5).alloc Up.new (Obj.map #[] 0)
        have hlow := H.out.low
        have hsp := hlow p H.out.sq
        refine ⟨by rw [HE.out]; rfl, fun k => S k ∨ k = w.heap.size, w.heap.size, ?_, (F5.mono (fun k hk => by rw [hk]; exact .inl H.out.sq)).trans (F6.mono (fun k hk => .inr (by unfold New at hk; omega))), fun k hk => by rcases hk with hk | hk; exact .inl hk; exact .inr (by omega)⟩
        unfold Rf.reset'
        rw [if_pos ⟨HE.out, HD.out⟩]
        refine ⟨b5.fresh F6, hm, .inl H.out.sq, .inr rfl, by omega, fun k hk => ?_⟩
        have h1 := hm.lt
        rcases hk with hk | hk
        · have := hlow k hk; omega
        · omega
  · have he2 : ((F.chk stop false true : Nat) : Int) ≠ 0 := by omega
    have he3 : (((F.chk stop false true : Nat) : Int) == 0) = false := by rw [beq_eq_false_iff_ne]; exact he2
    go_enter Try.func18, Try.ntmps18
    go_upto_region 3 with (go_at_call 26; refine HCK.out.mono ?_; rintro e w1 ⟨rfl, hw1⟩; rw [hw1]; clear hw1)
    go_wp2
    rw [← HQ.out]
    refine ⟨rfl, S, m, ?_, Frm.refl _ _, fun k hk => .inl hk⟩
    unfold Rf.reset'
    rw [if_neg (fun c => he c.1)]
    exact H.out
section
variable {P : Program} {ops : Array Oper} {o : Oper} {a : Act} {Q : Exit → Act → World → Prop} {w : World} {K : Act → World → Prop} {E0 : Prop} {κ : Type} [DecidableEq κ] {enc : κ → Value} {T : TypeId} {b : Nat} {ents : List (κ × Value)}
/-- m[k] = v as one step of a region that draws its order -/
theorem step_update (KL : KeyLaw P T enc) {M E : TypeId} (hM : P.underlying M = some (.map T E)) (hgd : o.guard = none) {x y v : Operand} (ho : o.op = .mapUpdate M x y v)
    (hx : a.eval x = .map (some b)) {k : κ} (hy : a.eval y = enc k) (h : MapIs w b enc ents)
    (hK : ∀ w', MapIs w' b enc (putE k (a.eval v) ents) → Frm (· = b) w w' → w'.heap.size = w.heap.size → K (a.put o.dst undef) w') : if Region.wanted o (yielded ops a.tmps) = true then Oper.wp P o a w K Q else E0 := by
  rw [if_pos (by simp [Region.wanted, hgd])]
  obtain ⟨w', hr, h1, h2, h3⟩ := run_update KL hM h k (a.eval v)
  unfold Oper.wp execOp
  simp only [ho, hx, hy, Sem.run_bind, hr, Result.andThen_ok, Sem.run_pure]
  exact hK _ h1 h2 h3
theorem step_delete (KL : KeyLaw P T enc) {M E u : TypeId} (hM : P.underlying M = some (.map T E)) (hgd : o.guard = none) {x y : Operand} (ho : o.op = .call { callee := .builtin .delete, args := #[x, y], argTypes := #[M, u] })
    (hx : a.eval x = .map (some b)) {k : κ} (hy : a.eval y = enc k) (h : MapIs w b enc ents)
    (hK : ∀ w', MapIs w' b enc (delE k ents) → Frm (· = b) w w' → w'.heap.size = w.heap.size → K (a.put o.dst (.tuple #[])) w') : if Region.wanted o (yielded ops a.tmps) = true then Oper.wp P o a w K Q else E0 := by
  rw [if_pos (by simp [Region.wanted, hgd])]
  obtain ⟨w', hr, h1, h2, h3⟩ := run_delete KL hM h k o.type u
  unfold Oper.wp execOp
  simp only [ho, resolve, invoke, builtin, Sem.run_bind, Sem.run_pure, Result.andThen_ok, List.map_toArray, List.map_cons, List.map_nil, hx, hy, hr]
  exact hK _ h1 h2 h3
end
end Go.Proofs.Ytljleaomlooiaaa.M
