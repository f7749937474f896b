/- The library's table out of the row's list of variables. No condition. -/
import Derived.Test.YtpojejdddgdjdaaGreatDoorHaa
import Derived.Test.YtpojejdddgdjdaaGreatDoorWit
namespace Go.Proofs.YtpojejdddgdjdaaGreatDoor.M
open Go.ChangeShapes Go.WideShapes Go.ChangeAt Go.RowKit

theorem laid_tail {P : Program} {n : String} {d : DataW Unit} {rest : List (String × DataW Unit)} {w : World} (h : laidMet P ((n, d) :: rest) w) : laidMet P rest w := by
  obtain ⟨ps, ⟨g, t, cs, fuel, p, q, h1, h2, h3, h4, hq, rfl⟩, hnd, hc⟩ := h
  exact ⟨q, hq, (List.nodup_append.1 hnd).2.1, fun b off hm => hc b off (List.mem_append_right _ hm)⟩
theorem tab_data : Rows.laid_internal_strconv_uint64pow10 (H := Unit) = Lib.tabData .u64 Lib.pow10Tab := by kernel_rfl
theorem pt_of {w : World} {a b : String × DataW Unit} {rest : List (String × DataW Unit)} (h : laidMet Tryz.prog (a :: b :: ("internal/strconv.uint64pow10", Rows.laid_internal_strconv_uint64pow10) :: rest) w) : PT w := by
  obtain ⟨a1, a2⟩ := a
  obtain ⟨b1, b2⟩ := b
  have h2 := laid_tail (laid_tail h)
  rw [tab_data] at h2
  exact Lib.tabIs_of_head (name := "internal/strconv.uint64pow10") (g := 0) (t := 134) (e := 111) (by kernel_rfl) (by kernel_rfl) Tryz.underlying134 Tryz.underlying111 (by kernel_rfl) (by kernel_rfl) h2
end Go.Proofs.YtpojejdddgdjdaaGreatDoor.M
