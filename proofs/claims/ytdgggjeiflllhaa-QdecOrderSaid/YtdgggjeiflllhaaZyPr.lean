/- Pr -/
import Derived.BigQuiet
import Derived.IntWalk
import Derived.Deep.CutBlock
import Derived.Deep.LoopGhost
import Derived.Below
import Derived.Test.YtdgggjeiflllhaaZyOn
import Derived.Test.YtdgggjeiflllhaaZyQu
import Derived.Test.YtdgggjeiflllhaaZyNu
import Derived.Test.YtdgggjeiflllhaaZyIn

namespace Go.Proofs.Ytdgggjeiflllhaa.M
open Go.ChangeShapes Go.WideShapes Go.ChangeAt Go.RowKit
theorem light_fit {l : List Fld} (h : light l = true) : ∀ f ∈ l, Fit f := fun f hf => by
  have h1 := lsum_in hf
  have h2 := of_decide_eq_true h
  unfold Fit
  omega
set_option maxRecDepth 100000 in
set_option maxHeartbeats 40000000 in
theorem order_walk (A1 : Option Addr) (n1 c1 : Nat) (L : List (Sl Fld)) (iu : Int) (W : World) (h1 : AIn W Sl.cells (fun s => AIn W fcells FldOk s.A s.l.length s.c s.l) A1 n1 c1 L) (hv : (Lit.int .u8 iu).wf = true) :
    Calls Try.prog 6 #[.slice A1 n1 c1, .int .u8 iu] W fun e w' => e = .returned (.bool true) ∧ Below W.heap.size W w' := by
  obtain ⟨hn1, hR1, hcap1, hmax1, hok1⟩ := h1
  subst hn1
  unfold maxLen at hmax1
  obtain ⟨u0, u1⟩ := bounds_u8 hv
  obtain ⟨t, rfl⟩ := Int.eq_ofNat_of_zero_le u0
  clear hv u0
  have HR1 := Lib.hid hR1
  have HOK1 := Lib.hid hok1
  clear hR1 hok1
  go_enter Try.func6, Try.ntmps6
  go_wp2_with (fail)
  refine (known10_any _).mono ?_
  rintro e w1 ⟨rfl, hF1⟩
  have HF1 := Lib.hid hF1
  clear hF1
  by_cases q1 : 6 < L.length
  · go_wp2
    go_ret
    exact ⟨rfl, HF1.out.below⟩
  have hon := onew_any 4096 9 (by omega) (by omega) (by omega) (by omega) w1
  rw [show lim 4096 = 4096 by rfl, show (max (9 : Int) 0).toNat = 9 by rfl] at hon
  have HON := Lib.hid hon
  clear hon
  go_wp2_with (fail)
  refine HON.out.mono ?_
  rintro e w2 ⟨Y, po, g2, So, rfl, ho, hF2, hy2⟩
  have hdn := kqnew 4096 9 (by omega) (by omega) (by omega) (by omega) W w2 (HF1.out.then_new Up.new hF2)
  rw [show lim 4096 = 4096 by rfl, show (max (9 : Int) 0).toNat = 9 by rfl] at hdn
  have hy2' : ∀ k, Y k → W.heap.size ≤ k := fun k hk => Nat.le_trans HF1.out.size (hy2 k hk)
  have HDN := Lib.hid hdn
  have HO := Lib.hid ho
  have HY2 := Lib.hid hy2'
  clear hdn ho hy2'
  clear HON hF2 hy2
  go_wp2_with (fail)
  refine HDN.out.mono ?_
  rintro e w3 ⟨X, pd, g, bm, rfl, hK, hF3, hx3⟩
  have hD := DD.onew hK HO.out hF3 hx3 HY2.out
  obtain ⟨D0, hD0⟩ : ∃ D0 : Qd, D0 = ⟨⟨[], 0, 0⟩, 4096, 9, [], [], [], 0, false⟩ := ⟨_, rfl⟩
  rw [← hD0] at hD
  have HD := Lib.hid hD
  have HD0 := Lib.hid hD0
  clear hD hD0
  clear hK hF3 hx3 HO HY2 HDN
  go_wp2_with (fail)
  go_loopg [7, 8, 9] L.length (fun kk v7 v8 v9 wx => ∃ (i : Nat) (Y : Nat → Prop) (E : Qn) (ins : Bytes) (Ai : Option Addr) (ci : Nat) (As : Option Addr) (cs : Nat) (S : List (Sl UInt8)) (cl : List (Nat × List Lq)), v7 = .slice Ai ins.length ci ∧ v8 = .slice As S.length cs ∧ v9 = .int .i64 (i : Int) ∧ i + kk = L.length ∧ cl.length = i ∧ S.length = i ∧ ins.length ≤ 200000 * i ∧ Hid (DD W wx X pd g bm D0 Y po g2 E) ∧ Hid (Wa W wx X Y Ai ci ins As cs S) ∧ Hid (OrdI E ins cl) ∧ Hid (S.map (·.l) = cl.map secB) ∧ Hid (cl.map secF = (L.take i).map (·.l)))
  case atStart => exact ⟨0, Y, _, [], none, 0, none, 0, [], [], rfl, rfl, rfl, by omega, rfl, rfl, Nat.le_refl _, HD, Lib.hid (Wa.start _ _ _ _), Lib.hid OrdI.start, Lib.hid rfl, Lib.hid rfl⟩
  case round =>
    clear HD
    obtain ⟨i, Y, E, ins, Ai, ci, As, cs, S, cl, rfl, rfl, rfl, hi, hcl, hSl, hil, hD, hW, hO, hS, hL⟩ := hrel
    rename World => wx
    have HSL := Lib.hid hSl
    clear hSl
    by_cases hlt : i < L.length
    · have hlti : (i : Int) < (L.length : Int) := by omega
      as_aux_lemma =>
        obtain ⟨ga, oa, rfl, hx1W⟩ := sl_get2 HR1.out i hlt
        have hPI := HOK1.out L[i] (List.getElem_mem hlt)
        have htk : L.take (i + 1) = L.take i ++ [L[i]] := by rw [List.take_add_one, List.getElem?_eq_getElem hlt]; rfl
        generalize L[i] = s at *
        obtain ⟨sA, sc, sl⟩ := s
        simp only at hPI hx1W
        obtain ⟨_, hRs, _, _, hoks⟩ := hPI
        rw [fcells_fvs] at hRs
        have hgaW := World.block_lt_of_cell? _ _ hx1W
        simp only at hgaW
        have hcells : ∀ w', Frm (New W) W w' → w'.cell? ⟨ga, oa + i, none⟩ = some (.slice sA sl.length sc) ∧ ga < w'.heap.size := fun w' f => by
          have hs := f.size
          exact ⟨by rw [f.cell (by unfold New; simp only; omega)]; exact hx1W, by omega⟩
        have hFW := hD.out.d.frm
        have hRw := hRs.fresh hFW
        obtain ⟨hc1, hc2⟩ := hcells wx hFW
        have hwi : IntKind.u64.wrap (i : Int) = (i : Int) := IntWalk.u64_in _ (by omega)
        have HCELLS := Lib.hid hcells
        have HRS := Lib.hid hRs
        have HOKS := Lib.hid hoks
        have HFW := Lib.hid hFW
        have HRW := Lib.hid hRw
        have HTK := Lib.hid htk
        clear hcells hRs hoks hFW hRw htk
        clear hx1W
        by_cases q5 : 6 < sl.length
        · go_wp2
          go_ret
          exact ⟨rfl, HFW.out.below⟩
        have hL2 := light_any sl sA sc wx HRW.out HOKS.out (by omega)
        cases hli : light sl with
        | false =>
          rw [hli] at hL2
          have HL2 := Lib.hid hL2
          have HLI := Lib.hid hli
          clear hL2 hli
          go_wp2_with (fail)
          refine HL2.out.mono ?_
          rintro e w5 ⟨rfl, hF5⟩
          go_wp2
          go_ret
          exact ⟨rfl, (HFW.out.then_new Up.new hF5).below⟩
        | true =>
          rw [hli] at hL2
          have hfl := light_in hli
          have hfit : ∀ f ∈ sl, Fit f := light_fit hli
          obtain ⟨x, hO2, hsec, hfs, hal⟩ := hO.out.step sl (by omega) hfit hfl (by omega)
          rw [hcl] at hO2 hsec hal
          have hEn := hO.out.n
          have hol := hO.out.ol
          have HL2 := Lib.hid hL2
          have HLI := Lib.hid hli
          have HFL := Lib.hid hfl
          clear hL2 hli hfl
          go_wp2_with (fail)
          refine HL2.out.mono ?_
          rintro e w5 ⟨rfl, hF5⟩
          have hD5 := hD.out.fresh hF5
          have hW5 := hW.out.fresh hF5
          obtain ⟨hc1, hc2⟩ := HCELLS.out w5 hD5.d.frm
          obtain ⟨So, Ao, co, ol, Ar, cr, ho⟩ := hD5.o
          have hen := oenc_any ho i sl sA sc (HRS.out.fresh hD5.d.frm) (fun b hb hne e => by
            obtain ⟨gg, off, q, hlt⟩ := HRS.out.lt (by
              cases sl with
              | nil => exact absurd rfl hne
              | cons x r => simp [fvs])
            rw [q] at hb
            have hgb : gg = b := by simpa using hb
            subst hgb
            have := hD5.low _ e
            omega) (by omega) HFL.out (by omega) (by omega)
          generalize E.enc i sl = Q at *
          obtain ⟨⟨a, b⟩, E2⟩ := Q
          simp only at hO2 hsec hal hen
          have HD5 := Lib.hid hD5
          have HW5 := Lib.hid hW5
          have HEN := Lib.hid hen
          have HO2 := Lib.hid hO2
          have HSEC := Lib.hid hsec
          have HFS := Lib.hid hfs
          clear hD5 hW5 hen hO2 hsec hfs
          clear hF5 ho hD hW hO
          go_wp2_with (fail)
          refine HEN.out.mono ?_
          rintro e w6 ⟨A5, c5, A6, c6, Y6, S6, Ao6, co6, ol6, rfl, hI6, hIc, hS6, hSc, ho6, hF6, hs6, hn6⟩
          have hD6 := HD5.out.doc ho6 hF6 hs6
          have hW6 := HW5.out.stepY hF6 hs6
          have hK6 : Kp W w6 X Y6 A6 (bvs b) := ⟨hS6, fun k hk => by
            obtain ⟨gg, off, q, hlt⟩ := hS6.lt (by
              have := (secB_head x (HO2.out.sl x (by simp)).2).1
              rw [← HSEC.out] at this
              cases b with
              | nil => exact absurd rfl this
              | cons x r => simp [bvs])
            rw [q] at hk
            have hgb : gg = k := by simpa using hk
            subst hgb
            have h2 := hn6 gg (.inr (by rw [q]; rfl))
            have h3 : w5.heap.size ≤ gg := h2.1
            exact ⟨hlt, fun e => by have := HD5.out.d.at_.low gg e; omega, h2.2, Nat.le_trans HD5.out.d.frm.size h3⟩⟩
          have hap : ∀ k, M.blk A6 = some k → M.blk Ai ≠ some k ∧ M.blk As ≠ some k := fun k hk => by
            have h2 : w5.heap.size ≤ k := (hn6 k (.inr hk)).1
            exact ⟨fun e => by have := (HW5.out.wd.ki.far k e).1; omega, fun e => by have := (HW5.out.wd.ks.far k e).1; omega⟩
          have hia := hW6.ia
          have hstp : ∀ A7 c7 w7, App (fun k => M.blk Ai = some k ∨ New w6 k) w7 5 1 A7 (ins.length + a.length) c7 (bvs ins ++ bvs a) → Frm (fun k => M.blk Ai = some k ∨ New w6 k) w6 w7 → ((M.blk A7 = M.blk Ai ∧ c7 = ci) ∨ (M.blk A7 = some w6.heap.size ∧ 0 < a.length)) → Wa W w7 X Y6 A7 c7 (ins ++ a) As cs S ∧ DD W w7 X pd g bm D0 Y6 po g2 E2 ∧ Kp W w7 X Y6 A6 (bvs b) ∧ ∀ k, M.blk A6 = some k → M.blk A7 ≠ some k ∧ M.blk As ≠ some k := fun A7 c7 w7 hA f hb => by
            rw [← bvs_append, ← List.length_append] at hA
            obtain ⟨e1, e2⟩ := hW6.insA hD6 hA f hb
            refine ⟨e1, e2, hK6.keep f (fun k hk e => ?_), fun k hk => ⟨fun e => ?_, (hap k hk).2⟩⟩
            · rcases e with e | e
              · exact (hap k hk).1 e
              · have := (hK6.far k hk).1; have e : w6.heap.size ≤ k := e; omega
            · rcases hb with q | q
              · exact (hap k hk).1 (by rw [← q.1]; exact e)
              · rw [q.1] at e
                have e : w6.heap.size = k := by simpa using e
                have := (hK6.far k hk).1
                omega
          have hfin : ∀ A7 c7 w7 A8 c8 w8, Wa W w7 X Y6 A7 c7 (ins ++ a) As cs S → DD W w7 X pd g bm D0 Y6 po g2 E2 → Kp W w7 X Y6 A6 (bvs b) → (∀ k, M.blk A6 = some k → M.blk A7 ≠ some k ∧ M.blk As ≠ some k) → App (fun k => M.blk As = some k ∨ New w7 k) w8 23 1 A8 (S.length + 1) c8 (S.flatMap Sl.cells ++ (#[Value.slice A6 b.length c6] : Array Value).toList) → Frm (fun k => M.blk As = some k ∨ New w7 k) w7 w8 → ((M.blk A8 = M.blk As ∧ c8 = cs) ∨ (M.blk A8 = some (w7.heap.size + 1) ∧ 0 < 1)) → Wa W w8 X Y6 A7 c7 (ins ++ a) A8 c8 (S ++ [⟨A6, c6, b⟩]) ∧ DD W w8 X pd g bm D0 Y6 po g2 E2 := fun A7 c7 w7 A8 c8 w8 h1 h2 h3 h4 hA f hb => by
            rw [show S.length + 1 = (S ++ [(⟨A6, c6, b⟩ : Sl UInt8)]).length by simp, show S.flatMap Sl.cells ++ (#[Value.slice A6 b.length c6] : Array Value).toList = (S ++ [(⟨A6, c6, b⟩ : Sl UInt8)]).flatMap Sl.cells by simp [Sl.cells]] at hA
            exact h1.secA h2 ⟨A6, c6, b⟩ h3 hSc h4 hA f hb
          have HIA := Lib.hid hia
          have HI6 := Lib.hid hI6
          have HSTP := Lib.hid hstp
          have HFIN := Lib.hid hfin
          have HIC := Lib.hid hIc
          clear hia hI6 hstp hfin hIc
          clear hD6 hW6 hK6 hap ho6 hF6 hs6 hn6 hS6 HEN
          have t1 := trivial
          go_wp2_with (first
            | (at_builtin; clear t1; refine wpList_append u8s rfl rfl rfl HIA.out (fun k hk => .inr hk) rfl HI6.out (by rw [bvs_length, Nat.mul_one]) (bvs_one _) (by omega) ?_; intro A7 c7 w7 hA7 hF7 hb7 _; obtain ⟨hW7, hD7, hK7, hp7⟩ := HSTP.out A7 c7 w7 hA7 hF7 hb7; have HSA7 := Lib.hid hW7.sa; have HW7 := Lib.hid hW7; have HD7 := Lib.hid hD7; have HK7 := Lib.hid hK7; have HP7 := Lib.hid hp7; clear hA7 hF7 hb7 hW7 hD7 hK7 hp7)
            | (at_builtin; refine wpList_append_lit sbE rfl rfl rfl HSA7.out (fun k hk => .inr hk) rfl rfl (one_cell _ rfl) (by have := HSL.out; omega) ?_; intro A8 c8 w8 hA8 hF8 hb8 _; obtain ⟨hW8, hD8⟩ := HFIN.out _ _ _ A8 c8 w8 HW7.out HD7.out HK7.out HP7.out hA8 hF8 hb8; have HW8 := Lib.hid hW8; have HD8 := Lib.hid hD8; clear hA8 hF8 hb8 hW8 hD8))
          have hSS : (S ++ [(⟨A6, c6, b⟩ : Sl UInt8)]).map (·.l) = (cl ++ [x]).map secB := by rw [List.map_append, List.map_append, hS.out]; simp [HSEC.out]
          have hLL : (cl ++ [x]).map secF = (L.take (i + 1)).map (·.l) := by rw [List.map_append, hL.out, HTK.out, List.map_append]; simp [HFS.out]
          have HSS := Lib.hid hSS
          have HLL := Lib.hid hLL
          clear hSS hLL
          go_roundg (gk - 1)
          case measure => omega
          case rel => exact ⟨i + 1, Y6, E2, ins ++ a, A7, c7, A8, c8, S ++ [⟨A6, c6, b⟩], cl ++ [x], by rw [List.length_append], by simp, by rw [Int.natCast_add]; rfl, by omega, by simp [hcl], by simp [HSL.out], by rw [List.length_append]; omega, HD8, HW8, HO2, HSS, HLL⟩
    · have hlti : ¬ (i : Int) < (L.length : Int) := by omega
      obtain rfl : i = L.length := by omega
      as_aux_lemma =>
        have hLe : cl.map secF = L.map (·.l) := by have := hL.out; rwa [List.take_length] at this
        have hWd := hW.out.wd
        have hDw : ({ D0 with waits := [] } : Qd) = D0 := by rw [HD0.out]
        have hDs := hD.out
        rw [← hDw] at hDs
        have HWD := Lib.hid hWd
        have HLE := Lib.hid hLe
        have HDS := Lib.hid hDs
        clear hWd hLe hDs
        clear hL hW hDw hlti
        have t1 := trivial
        go_wp2_with (fail)
        go_loopg [12, 13] S.length (fun kk v12 v13 wx => ∃ (i : Nat) (X : Nat → Prop) (ws : List Nat), v12 = .int .i64 (ws.length : Int) ∧ v13 = .int .i64 (i : Int) ∧ i + kk = S.length ∧ ws.length ≤ i ∧ Hid (∀ s ∈ ws, ∃ j, j < i ∧ s = (j + t) % S.length) ∧ Hid (DD W wx X pd g bm { D0 with waits := ws } Y po g2 E) ∧ Hid (Wd W wx X Y Ai ci ins As cs S))
        case atStart => exact ⟨0, X, [], rfl, rfl, by omega, Nat.le_refl _, Lib.hid (fun s hs => by cases hs), HDS, HWD⟩
        case round =>
          clear HDS HWD hD
          obtain ⟨i, X, ws, rfl, rfl, hi, hwi, hws, hD, hWd⟩ := hrel
          rename World => wy
          by_cases hlt : i < S.length
          · have hlti : (i : Int) < (S.length : Int) := by omega
            as_aux_lemma =>
              obtain ⟨k, hk⟩ : ∃ k, k = (i + t) % S.length := ⟨_, rfl⟩
              have hkl : k < S.length := by rw [hk]; exact Nat.mod_lt _ (by omega)
              have hs6 : S.length ≤ 6 := by have := HSL.out; omega
              have hi6 : (i : Int) < 6 := by omega
              have hw2 : IntKind.i64.wrap ((i : Int) + (t : Int)) = (i : Int) + (t : Int) := IntWalk.i64_in _ (by omega)
              have hw3 : ((i : Int) + (t : Int)) % (S.length : Int) = (k : Int) := by rw [hk, Int.natCast_emod, Int.natCast_add]
              have hw5 : ((i : Int) + (t : Int)).tmod (S.length : Int) = (k : Int) := by rw [Int.tmod_eq_emod_of_nonneg (by omega), hw3]
              have hw4 : IntKind.u64.wrap (k : Int) = (k : Int) := IntWalk.u64_in _ (by omega)
              have hnz : ¬ (S.length : Int) = 0 := by omega
              obtain ⟨gS, oS, hAs, hcS⟩ := sl_get2 hWd.out.ks.rd k hkl
              subst hAs
              have hgS := World.block_lt_of_cell? _ _ hcS
              simp only at hgS
              have hScl : S.length = cl.length := by have := congrArg List.length hS.out; rwa [List.length_map, List.length_map] at this
              have hkc : k < cl.length := by omega
              have hsk : S[k].l = secB cl[k] := by
                have h1 : (S.map (·.l))[k]'(by rw [List.length_map]; exact hkl) = (cl.map secB)[k]'(by rw [List.length_map]; exact hkc) := by simp only [hS.out]
                simpa using h1
              have hxm := List.getElem_mem hkc
              have hea := hWd.out.each S[k] (List.getElem_mem hkl)
              have hkL : k < L.length := by have := HSL.out; omega
              have hLx : L[k].l = secF cl[k] := by
                have h1 : (L.map (·.l))[k]'(by rw [List.length_map]; exact hkL) = (cl.map secF)[k]'(by rw [List.length_map]; exact hkc) := by simp only [HLE.out]
                simpa using h1
              have hks : ∀ w' X', Wd W w' X' Y Ai ci ins (some ⟨gS, oS, none⟩) cs S → w'.cell? ⟨gS, oS + k, none⟩ = some (.slice S[k].A S[k].l.length S[k].c) ∧ gS < w'.heap.size ∧ Rd w' S[k].A (bvs S[k].l) := fun w' X' h => by
                obtain ⟨g9, o9, e9, hc9⟩ := sl_get2 h.ks.rd k hkl
                cases e9
                have hg9 := World.block_lt_of_cell? _ _ hc9
                exact ⟨hc9, hg9, (h.each S[k] (List.getElem_mem hkl)).1.rd⟩
              obtain ⟨ga, oa, hAa, hcL⟩ := sl_get2 HR1.out k hkL
              subst hAa
              have hgaW := World.block_lt_of_cell? _ _ hcL
              simp only at hgaW
              have hPI := HOK1.out L[k] (List.getElem_mem hkL)
              generalize L[k] = y at *
              generalize S[k] = s at *
              generalize cl[k] = x at *
              obtain ⟨sA, sc, sl⟩ := s
              obtain ⟨yA, yc, yl⟩ := y
              simp only at hcS hsk hea hcL hPI hLx
              subst hsk hLx
              obtain ⟨hx4, hx36⟩ := hO.out.sl x hxm
              have hhead := secB_head x hx36
              have hdec := dec_ahead hO.out (D := { D0 with waits := ws }) (by rw [HD0.out]) (by rw [HD0.out]) (by rw [HD0.out]) (by rw [HD0.out]) (by show ws.length < 9; omega) x hxm k (fun hm => by
                obtain ⟨j, hj, e⟩ := hws.out k hm
                exact turn_ne (t := t) hlt hj (by rw [← e, hk]))
              have hkd := kqdec hD.out.d k (secB x) sA sc hea.1.rd hea.2 (by omega) (fun q hq => ⟨(hea.1.far q hq).2.1, (hea.1.far q hq).1⟩) (by omega) (by rw [HD0.out]; exact Nat.zero_le _)
              rw [hdec] at hkd
              obtain ⟨_, hyR, _, _, _⟩ := hPI
              rw [fcells_fvs] at hyR
              have hyc : ∀ w', Frm (New W) W w' → w'.cell? ⟨ga, oa + k, none⟩ = some (.slice yA (secF x).length yc) ∧ ga < w'.heap.size ∧ Rd w' yA (fvs (secF x)) := fun w' f => by
                have hs := f.size
                exact ⟨by rw [f.cell (by unfold New; simp only; omega)]; exact hcL, by omega, hyR.fresh f⟩
              have HK := Lib.hid hk
              have HS6 := Lib.hid hs6
              have HSCL := Lib.hid hScl
              have HEA := Lib.hid hea
              have HHEAD := Lib.hid hhead
              have HYC := Lib.hid hyc
              have HKS := Lib.hid hks
              have HDEC := Lib.hid hdec
              have HX4 := Lib.hid hx4
              clear hk hs6 hScl hea hhead hyc hks hdec hx4
              clear hcL hgaW hyR
              by_cases hx0 : 0 < x.1
              · rw [if_pos hx0] at hkd
                have HKD := Lib.hid hkd
                clear hkd
                go_wp2_with (fail)
                refine HKD.out.mono ?_
                rintro e w5 ⟨X5, A5, c5, hK5, rfl, _, hR5, hF5, hs5⟩
                have hD5 := hD.out.dec hK5 hF5 hs5
                have hW5 := hWd.out.stepX hF5 hs5
                obtain ⟨hcS, hgS, hR5s⟩ := HKS.out w5 X5 hW5
                obtain ⟨gb, ob, hAb, hb0, hgb, hlb⟩ := sec_byte x hx36 hR5s
                subst hAb
                rw [if_pos hx0] at hb0
                have hbq : ¬ ((x.1 + 1 : Nat) : Int) = 0 := by omega
                obtain ⟨bq, hbe⟩ : ∃ bq, bq = x.1 + 1 := ⟨_, rfl⟩
                rw [← hbe] at hb0 hbq
                have hlbi : (0 : Int) < ((secB x).length : Int) := by omega
                have hkw : Calls Try.prog 27 #[.pointer (some ⟨pd, 0, none⟩)] w5 fun e w' => e = .returned (.int .i64 ((ws.length : Int) + 1)) ∧ w' = w5 := by
                  refine (kqwaiting hD5.d).mono ?_
                  rintro e w' ⟨rfl, rfl⟩
                  exact ⟨by simp, rfl⟩
                have hwl : IntKind.i64.wrap ((ws.length : Int) + 1) = (ws.length : Int) + 1 := IntWalk.i64_in _ (by have := HS6.out; omega)
                have hws2 : ∀ s ∈ ws ++ [k], ∃ j, j < i + 1 ∧ s = (j + t) % S.length := fun s hs => by
                  rcases List.mem_append.1 hs with q | q
                  · obtain ⟨j, hj, e⟩ := hws.out s q
                    exact ⟨j, by omega, e⟩
                  · exact ⟨i, by omega, by rw [List.mem_singleton.1 q]; exact HK.out⟩
                have HD5 := Lib.hid hD5
                have HW5 := Lib.hid hW5
                have HBE := Lib.hid hbe
                have HKW := Lib.hid hkw
                have HWS2 := Lib.hid hws2
                clear hD5 hW5 hbe hkw hws2
                clear hK5 hF5 hs5 hR5 hR5s HKD hlt
                go_wp2_with (fail)
                refine HKW.out.mono ?_
                rintro e w6 ⟨rfl, hw6⟩
                rw [hw6]
                clear hw6 w6
                go_wp2_with (fail)
                go_roundg (gk - 1)
                case measure => omega
                case rel => exact ⟨i + 1, X5, ws ++ [k], by simp, by rw [Int.natCast_add]; rfl, by omega, by simp; omega, HWS2, HD5, HW5⟩
              · rw [if_neg hx0] at hkd
                have HKD := Lib.hid hkd
                clear hkd
                go_wp2_with (fail)
                refine HKD.out.mono ?_
                rintro e w5 ⟨X5, A5, c5, hK5, rfl, _, hR5, hF5, hs5⟩
                have hD5 := hD.out.dec hK5 hF5 hs5
                have hW5 := hWd.out.stepX hF5 hs5
                obtain ⟨hcS, hgS, hR5s⟩ := HKS.out w5 X5 hW5
                obtain ⟨gb, ob, hAb, hb0, hgb, hlb⟩ := sec_byte x hx36 hR5s
                subst hAb
                rw [if_neg hx0] at hb0
                have hlbi : (0 : Int) < ((secB x).length : Int) := by omega
                obtain ⟨hcL, hgL, hRy⟩ := HYC.out w5 hD5.d.frm
                have hfe := fields_eq (secF x) A5 yA c5 yc w5 hR5 hRy (by have := (hO.out.li x hxm).2.2; unfold secF; rw [List.length_map]; omega)
                have hws2 : ∀ s ∈ ws, ∃ j, j < i + 1 ∧ s = (j + t) % S.length := fun s hs => by
                  obtain ⟨j, hj, e⟩ := hws.out s hs
                  exact ⟨j, by omega, e⟩
                simp only at hR5 hfe
                have HD5 := Lib.hid hD5
                have HW5 := Lib.hid hW5
                have HFE := Lib.hid hfe
                have HWS2 := Lib.hid hws2
                clear hD5 hW5 hfe hws2
                clear hK5 hF5 hs5 hR5 hR5s HKD hlt hRy
                go_wp2_with (fail)
                refine HFE.out.mono ?_
                rintro e w6 ⟨rfl, nq, rfl⟩
                have hD6 := HD5.out.fresh ((Frm.refl _ _).drewN nq)
                have hW6 := HW5.out.fresh ((Frm.refl _ _).drewN nq)
                have HD6 := Lib.hid hD6
                have HW6 := Lib.hid hW6
                clear hD6 hW6
                go_wp2_with (fail)
                go_roundg (gk - 1)
                case measure => omega
                case rel => exact ⟨i + 1, X5, ws, rfl, by rw [Int.natCast_add]; rfl, by omega, by omega, HWS2, HD6, HW6⟩
          · have hlti : ¬ (i : Int) < (S.length : Int) := by omega
            obtain rfl : i = S.length := by omega
            as_aux_lemma =>
              have hfd := hO.out.fed (D := { D0 with waits := ws }) (by rw [HD0.out]) (by rw [HD0.out]) (by rw [HD0.out]) (by rw [HD0.out])
              have hs6 : S.length ≤ 6 := by have := HSL.out; omega
              have hins : ins.length ≤ 1200000 := by have := HSL.out; omega
              have hkf := kqfeed hD.out.d ins Ai ci hWd.out.ki.rd (by rw [HD0.out]; show 0 + ins.length ≤ _; omega) (by rw [HD0.out]; show 0 + 0 + ins.length ≤ _; omega)
              rw [hfd] at hkf
              have hod : OrdD { { D0 with waits := ws } with t := E.far } E cl ws 0 := OrdD.start (D := { { D0 with waits := ws } with t := E.far }) (by rw [HD0.out]) (by rw [HD0.out]) (by rw [HD0.out]) rfl (by rw [HD0.out]) (by rw [HD0.out])
              have HKF := Lib.hid hkf
              have HOD := Lib.hid hod
              have HFD := Lib.hid hfd
              have HS6 := Lib.hid hs6
              clear hkf hod hfd hs6
              clear hlti
              go_wp2_with (fail)
              refine HKF.out.mono ?_
              rintro e w5 ⟨X5, hK5, rfl, hF5, hs5⟩
              have hD5 := hD.out.dec hK5 hF5 hs5
              have hW5 := hWd.out.stepX hF5 hs5
              simp only at hD5
              generalize ({ { D0 with waits := ws } with t := E.far } : Qd) = D1 at *
              have HD5 := Lib.hid hD5
              have HW5 := Lib.hid hW5
              clear hD5 hW5
              clear hK5 hF5 hs5 HKF hD hWd HFD
              have hwn : ∀ s ∈ ws, s < cl.length := fun s hs => by
                obtain ⟨j, hj, e⟩ := hws.out s hs
                have h1 := HSL.out
                rw [e, hcl, ← h1]
                exact Nat.mod_lt _ (by omega)
              have HWN := Lib.hid hwn
              clear hwn
              clear hws
              go_wp2_with (fail)
              go_loopg [17] S.length (fun kk v17 wx => ∃ (i : Nat) (X : Nat → Prop) (D : Qd), v17 = .int .i64 (i : Int) ∧ i + kk = S.length ∧ Hid (OrdD D E cl ws i) ∧ Hid (DD W wx X pd g bm D Y po g2 E) ∧ Hid (Wd W wx X Y Ai ci ins As cs S))
              case atStart => exact ⟨0, X5, D1, rfl, by omega, HOD, HD5, HW5⟩
              case round =>
                clear HOD HD5 HW5
                obtain ⟨i, X, D, rfl, hi, hod, hD, hWd⟩ := hrel
                rename World => wz
                by_cases hlt : i < S.length
                · have hlti : (i : Int) < (S.length : Int) := by omega
                  have hi6 : (i : Int) < 6 := by have := HS6.out; omega
                  as_aux_lemma =>
                    have hw4 : IntKind.u64.wrap (i : Int) = (i : Int) := IntWalk.u64_in _ (by omega)
                    obtain ⟨gS, oS, hAs, hcS⟩ := sl_get2 hWd.out.ks.rd i hlt
                    subst hAs
                    have hgS := World.block_lt_of_cell? _ _ hcS
                    simp only at hgS
                    have hScl : S.length = cl.length := by have := congrArg List.length hS.out; rwa [List.length_map, List.length_map] at this
                    have hkc : i < cl.length := by omega
                    have hsk : S[i].l = secB cl[i] := by
                      have h1 : (S.map (·.l))[i]'(by rw [List.length_map]; exact hlt) = (cl.map secB)[i]'(by rw [List.length_map]; exact hkc) := by simp only [hS.out]
                      simpa using h1
                    have hxm := List.getElem_mem hkc
                    have hea := hWd.out.each S[i] (List.getElem_mem hlt)
                    have hkL : i < L.length := by have := HSL.out; omega
                    have hLx : L[i].l = secF cl[i] := by
                      have h1 : (L.map (·.l))[i]'(by rw [List.length_map]; exact hkL) = (cl.map secF)[i]'(by rw [List.length_map]; exact hkc) := by simp only [HLE.out]
                      simpa using h1
                    obtain ⟨ga, oa, hAa, hcL⟩ := sl_get2 HR1.out i hkL
                    subst hAa
                    have hgaW := World.block_lt_of_cell? _ _ hcL
                    simp only at hgaW
                    have hPI := HOK1.out L[i] (List.getElem_mem hkL)
                    obtain ⟨D2, hdec, hod2⟩ := hod.out.step hO.out hkc
                    have hol := hod.out.olen hO.out
                    generalize L[i] = y at *
                    generalize S[i] = s at *
                    generalize cl[i] = x at *
                    obtain ⟨sA, sc, sl⟩ := s
                    obtain ⟨yA, yc, yl⟩ := y
                    simp only at hcS hsk hea hcL hPI hLx
                    subst hsk hLx
                    obtain ⟨hx4, hx36⟩ := hO.out.sl x hxm
                    have hkd := kqdec hD.out.d i (secB x) sA sc hea.1.rd hea.2 (by omega) (fun q hq => ⟨(hea.1.far q hq).2.1, (hea.1.far q hq).1⟩) (by omega) (by omega)
                    rw [hdec] at hkd
                    obtain ⟨_, hyR, _, _, _⟩ := hPI
                    rw [fcells_fvs] at hyR
                    have hyc : ∀ w', Frm (New W) W w' → w'.cell? ⟨ga, oa + i, none⟩ = some (.slice yA (secF x).length yc) ∧ ga < w'.heap.size ∧ Rd w' yA (fvs (secF x)) := fun w' f => by
                      have hs := f.size
                      exact ⟨by rw [f.cell (by unfold New; simp only; omega)]; exact hcL, by omega, hyR.fresh f⟩
                    have HSCL := Lib.hid hScl
                    have HEA := Lib.hid hea
                    have HYC := Lib.hid hyc
                    have HDEC := Lib.hid hdec
                    have HX4 := Lib.hid hx4
                    have HKD := Lib.hid hkd
                    have HOD2 := Lib.hid hod2
                    clear hScl hea hyc hdec hx4 hkd hod2
                    clear hcL hgaW hyR
                    go_wp2_with (fail)
                    refine HKD.out.mono ?_
                    rintro e w5 ⟨X5, A5, c5, hK5, rfl, _, hR5, hF5, hs5⟩
                    have hD5 := hD.out.dec hK5 hF5 hs5
                    have hW5 := hWd.out.stepX hF5 hs5
                    obtain ⟨hcL, hgL, hRy⟩ := HYC.out w5 hD5.d.frm
                    have hfe := fields_eq (secF x) A5 yA c5 yc w5 hR5 hRy (by have := (hO.out.li x hxm).2.2; unfold secF; rw [List.length_map]; omega)
                    simp only at hR5 hfe
                    have HD5 := Lib.hid hD5
                    have HW5 := Lib.hid hW5
                    have HFE := Lib.hid hfe
                    clear hD5 hW5 hfe
                    clear hK5 hF5 hs5 hR5 HKD hlt hRy
                    go_wp2_with (fail)
                    refine HFE.out.mono ?_
                    rintro e w6 ⟨rfl, nq, rfl⟩
                    have hD6 := HD5.out.fresh ((Frm.refl _ _).drewN nq)
                    have hW6 := HW5.out.fresh ((Frm.refl _ _).drewN nq)
                    have HD6 := Lib.hid hD6
                    have HW6 := Lib.hid hW6
                    clear hD6 hW6
                    go_wp2_with (fail)
                    go_roundg (gk - 1)
                    case measure => omega
                    case rel => exact ⟨i + 1, X5, D2, by rw [Int.natCast_add]; rfl, by omega, HOD2, HD6, HW6⟩
                · have hlti : ¬ (i : Int) < (S.length : Int) := by omega
                  obtain rfl : i = S.length := by omega
                  as_aux_lemma =>
                    have hScl : S.length = cl.length := by have := congrArg List.length hS.out; rwa [List.length_map, List.length_map] at this
                    have hod3 := hod.out
                    rw [hScl] at hod3
                    have hol := hod3.olen hO.out
                    obtain ⟨hw0, hfz⟩ := hod3.done hO.out HWN.out
                    have hfar := hO.out.farn
                    have hrs := hO.out.rest
                    have hkw : Calls Try.prog 27 #[.pointer (some ⟨pd, 0, none⟩)] wz fun e w' => e = .returned (.int .i64 0) ∧ w' = wz := by
                      refine (kqwaiting hD.out.d).mono ?_
                      rintro e w' ⟨rfl, rfl⟩
                      exact ⟨by rw [hw0]; rfl, rfl⟩
                    have hsd := kqsend hD.out.d (by omega) (by rw [hod3.t]; omega)
                    have hsl := sendQ_len D
                    have hfe : ∀ w' X' A c, DD W w' X' pd g bm D.send.2 Y po g2 E → Rd w' A (bvs D.send.1) → Calls Try.prog 23 #[.pointer (some ⟨po, 0, none⟩), .slice A D.send.1.length c] w' fun e w2 => e = .returned (.int .i64 0) ∧ Below W.heap.size W w2 := fun w' X' A c h hr => by
                      refine (h.ofeed D.send.1 A c hr (by rw [hrs]; show 0 + _ ≤ _; omega)).mono ?_
                      rintro e w2 ⟨rfl, Y', h2⟩
                      exact ⟨by rw [hfz]; rfl, h2.d.frm.below⟩
                    generalize D.send = z at *
                    obtain ⟨sb, D3⟩ := z
                    simp only at hsd hfe
                    have HKW := Lib.hid hkw
                    have HSD := Lib.hid hsd
                    have HFE := Lib.hid hfe
                    have HSCL := Lib.hid hScl
                    clear hkw hsd hfe hScl
                    clear hod3 hod hfz hw0 hsl
                    go_wp2_with (fail)
                    refine HKW.out.mono ?_
                    rintro e w6 ⟨rfl, hw6⟩
                    rw [hw6]
                    clear hw6 w6
                    go_wp2_with (fail)
                    refine HSD.out.mono ?_
                    rintro e w7 ⟨X7, A7, c7, hK7, rfl, hkp, hF7, hs7⟩
                    have hfe2 := HFE.out w7 X7 A7 c7 (hD.out.dec hK7 hF7 hs7) hkp.rd
                    have HFE2 := Lib.hid hfe2
                    clear hfe2
                    clear hK7 hkp hF7 hs7 HFE HSD
                    go_wp2_with (fail)
                    refine HFE2.out.mono ?_
                    rintro e w8 ⟨rfl, hb8⟩
                    go_wp2
                    go_ret
                    exact ⟨rfl, hb8⟩
end Go.Proofs.Ytdgggjeiflllhaa.M

