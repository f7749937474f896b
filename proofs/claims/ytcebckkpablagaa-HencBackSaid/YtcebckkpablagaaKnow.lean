/- bifoldlaw7.known holds. No condition. -/
import Derived.Test.YtcebckkpablagaaEnce
import Derived.Test.YtcebckkpablagaaIn
namespace Go.Proofs.Ytcebckkpablagaa.M
open Go.ChangeShapes Go.WideShapes Go.ChangeAt Go.RowKit

def kFs : List Fld := [([58, 109, 101, 116, 104, 111, 100], [71, 69, 84]), ([97], [98]), ([97], [98])]
theorem k_enc : (En.new 4096).encB kFs = [130, 64, 1, 97, 1, 98, 190] := by decide +kernel
theorem k_len : ((En.new 4096).enc kFs).t.l.length = 1 := by decide +kernel
theorem k_str : ([] : Bytes) ++ strc 128 0 7 [51, 48, 50] = [130, 100, 2] := by decide +kernel
theorem k_size : fsizes kFs ≤ 68719476736 := by decide +kernel
theorem k_n : (En.new 4096).t.n = 0 := rfl

theorem tlenS_any {S : Nat → Prop} {g : Nat} {T : Tb} (w : World) (h : TabS S w g T) :
    Calls Try.prog 23 #[.pointer (some ⟨g, 0, none⟩)] w fun e w' => e = .returned (.int .i64 (T.l.length : Nat)) ∧ w' = w := by
  obtain ⟨A, c, a, b, ew, en, h⟩ := h
  exact tlen_any w h

set_option maxRecDepth 100000 in
set_option maxHeartbeats 1000000 in
theorem known7_any (w : World) : Calls Try.prog 15 #[] w fun e w' => e = .returned (.bool true) ∧ Frm (New w) w w' := by
  obtain ⟨kb, hkb⟩ : ∃ kb : Bytes, Hid (kb = [130, 64, 1, 97, 1, 98, 190]) := ⟨_, rfl⟩
  go_enter Try.func15, Try.ntmps15
  go_wp2_with (first
    | (go_at_call 20
       refine (enew_any 4096 (by omega) (by omega) _).mono ?_
       rintro e w1 ⟨S, p, g, rfl, hE1, hF1, hS1, hp1⟩
       have HE1 := Lib.hid hE1
       have HF1 := Lib.hid hF1
       have HS1 := Lib.hid hS1
       clear hE1 hF1 hS1)
    | (refine wpList_val rfl _ (build_fld rfl) ?_)
    | (go_at_call 21
       refine (encB_any kFs _ 3 _ (HE1.out.fresh ((Frm.refl _ _).alloc Up.new _)) (Rd.new _ (fvs kFs).toArray _)
         (fun k hk => by
           have h1 := HE1.out.blk.lt
           have h2 := HE1.out.tab.low
           have hk2 : w1.heap.size = k := by simpa using hk
           subst hk2
           exact ⟨by omega, fun c => by have := h2 _ c; omega⟩) k_size (by rw [k_n]; decide)).mono ?_
       rintro e w3 ⟨S3, A3, c3, rfl, hA3, hfar3, hE3, hF3, hS3⟩
       have hF4 : Frm (New w) w w3 := by
         have h0 := HF1.out.size
         refine HF1.out.trans (Frm.trans ((Frm.refl (New w) w1).alloc (Up.new.of h0) _) (hF3.mono (fun k hk => ?_)))
         rcases hk with hk | hk | hk
         · rw [hk]; exact hp1
         · exact HS1.out k hk
         · simp at hk
           unfold New
           omega
       have HE3 := Lib.hid hE3
       have HF4 := Lib.hid hF4
       clear hfar3 hF3 hS3 hE3 hF4 hp1
       rw [k_enc, ← hkb.out] at hA3 ⊢
       have HA3 := Lib.hid hA3
       clear hA3)
    | (refine wpList_conv rfl rfl (l := kb) rfl HA3.out.rd ?_; rw [hkb.out]; simp only [str])
    | (go_at_call 22
       refine (table_any _ HE3.out).mono ?_
       rintro e w4 ⟨rfl, rfl⟩)
    | (go_at_call 23
       refine (tlenS_any _ HE3.out.tab).mono ?_
       rintro e w4 ⟨rfl, rfl⟩
       rw [k_len])
    | (go_at_call 16
       refine (strb_any [] none 0 [51, 48, 50] _ Rd.nil (by simp) (by simp)).mono ?_
       rintro e w5 ⟨A5, c5, rfl, hA5, hF5⟩
       have HF5 := Lib.hid hF5
       rw [k_str] at hA5 ⊢
       have hcv : Sem.run Try.prog (convert 22 9 (.slice A5 3 c5)) w5 = .ok (.string ⟨#[130, 100, 2]⟩) w5 := run_conv hA5.rd
       clear hA5 hF5))
  go_ret
  exact ⟨rfl, HF4.out.then_new Up.new HF5.out⟩
end Go.Proofs.Ytcebckkpablagaa.M
