/- The chapter's example of the law (known): it is true. No condition. -/
import Derived.Test.YtkfpcihkibnbnaaNumr
import Derived.Test.YtkfpcihkibnbnaaQb
namespace Go.Proofs.Ytkfpcihkibnbnaa.Q
open Go.ChangeShapes Go.WideShapes Go.ChangeAt Go.RowKit
open Go.Proofs.Ytkfpcihkibnbnaa.M (RetB Ret3 prefix_any rdp_cons bvs App Frm New Up Rd rdp pfx)

set_option maxHeartbeats 400000 in
theorem prefix_ex (w : World) : Calls Try.prog 15 #[.slice none 0 0, .int .u64 9, .int .u64 6, .int .i64 100] w (RetB w [4, 130]) := by
  have m1 : most 100 = 3 := by decide
  have e1 : enc 9 3 = 4 := by decide
  have henc := fun w => enc_any 9 100 w (by omega) (by omega) (by omega) (by omega)
  rw [m1, e1] at henc
  clear m1 e1
  have hp1 := prefix_any [] none 0 0 8 4 w Rd.nil (by simp) (by omega) (by omega) (by omega) (by omega) (by omega) (by omega)
  rw [show [] ++ pfx (0 : Int).toNat (8 : Int).toNat (4 : Int).toNat = [4] from by decide] at hp1
  go_enter Try.func15, Try.ntmps15
  go_wp2_with (first | (go_at_call 9; refine (henc _).mono ?_; rintro e w' ⟨rfl, rfl⟩) | fail)
  refine hp1.mono ?_
  rintro e w1 ⟨A1, c1, rfl, hA1, hF1⟩
  have hp2 := prefix_any [4] A1 c1 128 7 2 w1 hA1.rd (by simp) (by omega) (by omega) (by omega) (by omega) (by omega) (by omega)
  rw [show [4] ++ pfx (128 : Int).toNat (7 : Int).toNat (2 : Int).toNat = [4, 130] from by decide] at hp2
  clear hp1 henc
  go_wp2_with fail
  refine hp2.mono ?_
  rintro e w2 ⟨A2, c2, rfl, hA2, hF2⟩
  go_wp2_with fail
  go_ret
  exact ⟨A2, c2, rfl, hA2.mono (fun k hk => Nat.le_trans hF1.size hk), hF1.then_new Up.new hF2⟩

set_option maxHeartbeats 400000 in
theorem read_ex (g off c : Nat) (w : World) (hR : Rd w (some ⟨g, off, none⟩) (bvs [4, 130])) (hc : 2 ≤ c) :
    Calls Try.prog 16 #[.slice (some ⟨g, off, none⟩) 2 c, .int .u64 10, .int .i64 100] w fun e w' => e = .returned (.tuple #[.int .u64 9, .int .u64 6, .int .i64 2, .int .i64 0]) ∧ ∃ n, w' = w.drewN n := by
  have hr1 := fun w hR => rdp_cons 4 [130] g off c 8 w hR (by simp) (by omega) (by omega)
  rw [show rdp [4, 130] 8 = (4, 1, 0) from by decide] at hr1
  have hR2 : ∀ n, Rd (w.drewN n) (some ⟨g, off + 1, none⟩) (bvs [130]) := fun n => by
    have := (hR.drewN n).add 1
    simpa [bvs, Addr.add_lit] using this
  have hr2 := fun w hR => rdp_cons 130 [] g (off + 1) (c - 1) 7 w hR (by simp) (by omega) (by omega)
  rw [show rdp [130] 7 = (2, 1, 0) from by decide] at hr2
  have hdec := fun w => dec_any 4 10 100 w (by omega) (by omega) (by omega) (by omega) (by omega) (by omega)
  rw [show most 100 = 3 from by decide, show dec 4 10 3 = (9, 0) from by decide] at hdec
  obtain ⟨_, _, e, hc1⟩ := hR.at_ (k := 1) (by simp)
  simp only [Option.some.injEq, Addr.mk.injEq] at e
  obtain ⟨rfl, rfl, _⟩ := e
  have hc1' : w.cell? ⟨g, off + 1, none⟩ = some (.int .u8 130) := hc1
  clear hc1
  have hadd := fun w => add64 9 2 0 (by omega) (by omega) (by omega) (by omega) w
  go_enter Try.func16, Try.ntmps16
  go_wp2_with fail
  refine (hr1 _ hR).mono ?_
  rintro e w1 ⟨rfl, n1, rfl⟩
  go_wp2_with fail
  refine (hr2 _ (hR2 _)).mono ?_
  rintro e w2 ⟨rfl, n2, rfl⟩
  clear hr1 hr2 hR2 hR
  go_wp2_with fail
  refine (hdec _).mono ?_
  rintro e w3 ⟨rfl, n3, rfl⟩
  clear hdec
  go_wp2_with fail
  refine bodyPost_ret (v := .tuple #[.int .u64 9, .int .u64 6, .int .i64 2, .int .i64 0]) (by simp [results, Try.results16, go_sem]) rfl ⟨rfl, n1 + n2 + n3, ?_⟩
  simp [Nat.add_assoc]

set_option maxRecDepth 100000 in
set_option maxHeartbeats 400000 in
theorem known_any (w : World) : Calls Try.prog 6 #[] w fun e w' => e = .returned (.bool true) ∧ Frm (New w) w w' := by
  have hdec := fun w => dec_any 4 10 100 w (by omega) (by omega) (by omega) (by omega) (by omega) (by omega)
  rw [show most 100 = 3 from by decide, show dec 4 10 3 = (9, 0) from by decide] at hdec
  have henc := fun w => enc_any 9 100 w (by omega) (by omega) (by omega) (by omega)
  rw [show most 100 = 3 from by decide, show enc 9 3 = 4 from by decide] at henc
  have hrel := fun w => rel_any 5 1 w (by omega) (by omega) (by omega) (by omega)
  rw [show rel 5 1 = (3, true) from by decide] at hrel
  have hpost := fun w => post_any 5 1 w (by omega) (by omega) (by omega) (by omega)
  rw [show post 5 1 = (6, true) from by decide] at hpost
  go_enter Try.func6, Try.ntmps6
  go_wp2_with fail
  refine (hdec _).mono ?_
  rintro e w1 ⟨rfl, n1, rfl⟩
  go_wp2_with fail
  refine (prefix_ex _).mono ?_
  rintro e w2 ⟨A, c, rfl, hA, hF⟩
  have hF' : Frm (New w) w w2 := ((Frm.refl _ _).drewN n1).trans hF
  obtain ⟨g, off, rfl, _⟩ := hA.rd.lt (by simp [bvs])
  go_wp2_with fail
  refine (read_ex g off c w2 hA.rd hA.cap).mono ?_
  rintro e w3 ⟨rfl, n3, rfl⟩
  go_wp2_with (first | (go_at_call 9; refine (henc _).mono ?_; rintro e w' ⟨rfl, rfl⟩) | (go_at_call 11; refine (hrel _).mono ?_; rintro e w' ⟨rfl, rfl⟩) | (go_at_call 13; refine (hpost _).mono ?_; rintro e w' ⟨rfl, rfl⟩))
  go_ret
  exact ⟨rfl, hF'.drewN _⟩
end Go.Proofs.Ytkfpcihkibnbnaa.Q
