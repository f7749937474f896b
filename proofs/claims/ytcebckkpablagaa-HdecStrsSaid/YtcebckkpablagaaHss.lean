/- bifoldlaw6.HdecStrs: for every input it tells true. No condition. -/
import Derived.Deep.CutBlock
import Derived.Test.YtcebckkpablagaaKn6
import Derived.Test.YtcebckkpablagaaIn
import Derived.Test.YtcebckkpablagaaBack
import Derived.Test.YtcebckkpablagaaRnum
namespace Go.Proofs.Ytcebckkpablagaa.M
open Go.ChangeShapes Go.WideShapes Go.ChangeAt Go.RowKit

theorem bvs_one' (b : Bytes) : ∀ u ∈ bvs b, u.oneCell' = true := bvs_one b

set_option maxRecDepth 100000 in
set_option maxHeartbeats 4000000 in
theorem hstrs_walk (A1 : Option Addr) (n1 c1 : Nat) (b : Bytes) (s : ByteArray) (coded : Bool) (A2 : Option Addr) (n2 c2 : Nat) (mo : Bytes) (W : World) (h1 : BIn W A1 n1 c1 b) (hs : s.size ≤ maxLen) (h2 : BIn W A2 n2 c2 mo) :
    Calls Try.prog 9 #[.slice A1 n1 c1, .string s, .bool coded, .slice A2 n2 c2] W fun e w' => e = .returned (.bool true) ∧ Below W.heap.size W w' := by
  obtain ⟨hn1, hR1, hlow1, _, hcap1, hm1⟩ := h1
  obtain ⟨hn2, hR2, hlow2, _, hcap2, hm2⟩ := h2
  subst hn1 hn2
  obtain ⟨sb, rfl⟩ : ∃ l : Bytes, s = ⟨l.toArray⟩ := ⟨s.data.toList, by rw [Array.toArray_toList]⟩
  have e1 := str_size sb
  have hsz : sb.length ≤ 9223372036854775807 := by rw [e1] at hs; exact hs
  have hz1 : b.length ≤ 9223372036854775807 := Nat.le_trans hcap1 hm1
  have hz2 : mo.length ≤ 9223372036854775807 := Nat.le_trans hcap2 hm2
  clear hm1 hm2 hs
  have HR1 := Lib.hid hR1
  have HLOW1 := Lib.hid hlow1
  have HR2 := Lib.hid hR2
  have HLOW2 := Lib.hid hlow2
  clear hR1 hlow1 hR2 hlow2
  go_enter Try.func9, Try.ntmps9
  go_wp2_with (fail)
  refine (known6_any _).mono ?_
  rintro e w1 ⟨rfl, hF1⟩
  have HF1 := Lib.hid hF1
  clear hF1
  by_cases q1 : 200 < b.length
  · go_wp2
    go_ret
    exact ⟨rfl, HF1.out.below⟩
  by_cases q2 : 300 < sb.length
  · go_wp2
    go_ret
    exact ⟨rfl, HF1.out.below⟩
  by_cases q3 : 100 < mo.length
  · go_wp2
    go_ret
    exact ⟨rfl, HF1.out.below⟩
  go_wp2_with (fail)
  refine (hstr_any b A1 c1 w1 (HR1.out.fresh HF1.out) (by omega) hcap1).mono ?_
  rintro e w2 ⟨he2, hF2⟩
  have hF12 := HF1.out.then_new Up.new hF2
  have hst := fun w hw => strbits_any b A1 c1 w hw (by omega) hcap1
  generalize strD b 7 = x at *
  obtain ⟨t, m, er⟩ := x
  simp only [str] at he2
  subst he2
  have HF12 := Lib.hid hF12
  have HST := Lib.hid hst
  clear hF12 hst
  clear hF2 HF1
  go_wp2_with (fail)
  refine (HST.out _ (HR1.out.fresh HF12.out)).mono ?_
  rintro e w3 ⟨he3, hF3⟩
  have hF13 := HF12.out.then_new Up.new hF3
  simp only [str] at he3
  subst he3
  have hu : Up (New W) w3 := Up.new.of hF13.size
  have hR2 := HR2.out.fresh hF13
  have HF13 := Lib.hid hF13
  have HU := Lib.hid hu
  have HR2 := Lib.hid hR2
  clear hF13 hu hR2
  clear hF3 HF12
  clear HST
  cases coded with
  | false =>
    have hpl := pfx_length 0 7 sb.length
    obtain ⟨cb, hcb⟩ : ∃ cb, cb = pfx 0 7 sb.length ++ sb := ⟨_, rfl⟩
    have hcl : (pfx 0 7 sb.length).length + (⟨sb.toArray⟩ : ByteArray).size = cb.length := by rw [hcb, List.length_append, e1]
    have hc1 : bvs (pfx 0 7 sb.length) ++ sb.map (fun b => Value.int .u8 (b.toNat : Int)) = bvs cb := by rw [hcb, bvs_append]; rfl
    have hst : Hid (strD (cb ++ mo) 7 = (sb, cb.length, 0)) := by show _ = _; rw [hcb]; exact strD_plain sb mo (by omega)
    have hC : ∀ A c w, Rd w A (bvs (cb ++ mo)) → cb.length + mo.length ≤ c → Calls Try.prog 37 #[.slice A (cb.length + mo.length) c] w (RetS w (sb, cb.length, 0)) := fun A c w hR hc => by
      have := hstr_any (cb ++ mo) A c w hR (by rw [List.length_append]; omega) (by rw [List.length_append]; exact hc)
      rw [List.length_append, hst.out] at this
      exact this
    have HB : Hid (bvs cb ++ bvs mo = bvs (cb ++ mo)) := (bvs_append cb mo).symm
    have hcb9 : cb.length ≤ 1000 := by rw [← hcl, e1]; omega
    have HC := Lib.hid hC
    have HCL := Lib.hid hcl
    have HC1 := Lib.hid hc1
    clear hC hcl hc1
    clear hcb hst
    go_wp2_with (fail)
    have hp : Calls Try.prog 39 #[.slice none 0 0, .int .u8 0, .int .i64 7, .int .u64 (sb.length : Int)] w3 (RetA (New W) w3 ([] ++ pfx 0 7 sb.length)) := rprefix_nat (New W) [] none 0 0 7 sb.length w3 HU.out App.none_ (by simp) (by omega) (by omega) (by omega) (by omega)
    refine hp.mono ?_
    rintro e w4 ⟨A4, c4, rfl, hA4, hF4⟩
    rw [List.nil_append] at hA4 ⊢
    have t1 := trivial
    have t2 := trivial
    have t3 := trivial
    clear hp
    go_wp2_with (first
      | (at_builtin; clear t1; refine wpList_append_string u8s rfl strs_under rfl rfl hA4 (HU.out.of hF4.size) rfl (by omega) ?_
         intro A5 c5 w5 hA5 hF5 _ _
         rw [HCL.out] at hA5 ⊢
         have hF35 : Frm (New W) w3 w5 := hF4.trans hF5
         have hA5 : App (New W) w5 5 1 A5 cb.length c5 (bvs cb) := by rw [← HC1.out]; exact hA5
         have hu5 := HU.out.of hF35.size
         clear hA4 hF4 hF5)
      | (at_builtin; clear t2; refine wpList_append u8s rfl rfl rfl (App.none_ (M := New W)) hu5 rfl hA5.rd (by simp) (bvs_one _) (by omega) ?_
         intro A6 c6 w6 hA6 hF6 _ _
         rw [Nat.zero_add, List.nil_append] at hA6
         rw [Nat.zero_add]
         have hF36 := hF35.trans hF6
         have hu6 := HU.out.of hF36.size
         have hR6 := HR2.out.keep hF36 (fun k hk c => by have := HLOW2.out k hk; unfold New at c; omega)
         clear hA5 hF35 hF6)
      | (at_builtin; clear t3; refine wpList_append u8s rfl rfl rfl hA6 hu6 rfl hR6 (by simp) (bvs_one _) (by omega) ?_
         intro A7 c7 w7 hA7 hF7 _ _
         rw [HB.out] at hA7
         have hF37 := hF36.trans hF7
         have hA7c := hA7.cap
         clear hA6 hF36 hF7))
    refine (HC.out A7 c7 _ hA7.rd hA7c).mono ?_
    rintro e w8 ⟨he8, hF8⟩
    simp only [str] at he8
    subst he8
    go_wp2
    go_ret
    exact ⟨rfl, ((HF13.out.trans hF37).then_new Up.new hF8).below⟩
  | true =>
    have hpl0 := pfx_length 0 7 sb.length
    go_wp2_with (fail)
    have hp0 : Calls Try.prog 39 #[.slice none 0 0, .int .u8 0, .int .i64 7, .int .u64 (sb.length : Int)] w3 (RetA (New W) w3 ([] ++ pfx 0 7 sb.length)) := rprefix_nat (New W) [] none 0 0 7 sb.length w3 HU.out App.none_ (by simp) (by omega) (by omega) (by omega) (by omega)
    refine hp0.mono ?_
    rintro e w30 ⟨A30, c30, rfl, hA30, hF30⟩
    rw [List.nil_append] at hA30 ⊢
    clear hp0
    go_wp2_with (at_builtin; refine wpList_append_string u8s rfl strs_under rfl rfl hA30 (HU.out.of hF30.size) rfl (by omega) ?_
                 intro A31 c31 w31 hA31 hF31 _ _
                 clear hA30)
    have hF13 := HF13.out.trans (hF30.trans hF31)
    have hu : Up (New W) w31 := Up.new.of hF13.size
    have hR2 := HR2.out.keep (hF30.trans hF31) (fun k hk c => by have := HLOW2.out k hk; unfold New at c; omega)
    clear HR2
    have HR2 := Lib.hid hR2
    clear hR2
    clear HF13 HU hF30 hF31 hpl0
    have HF13 := Lib.hid hF13
    have HU := Lib.hid hu
    clear hF13 hu
    have hlh := hlen_le sb
    have hch := hcode_length sb
    have hpl := pfx_length 128 7 (hlen sb)
    obtain ⟨cb, hcb⟩ : ∃ cb, cb = pfx 128 7 (hlen sb) ++ hcode sb := ⟨_, rfl⟩
    have hcl : (pfx 128 7 (hlen sb)).length + hlen sb = cb.length := by rw [hcb, List.length_append, hch]
    have hc1 : bvs (pfx 128 7 (hlen sb)) ++ bvs (hcode sb) = bvs cb := by rw [hcb, bvs_append]
    have hst : Hid (strD (cb ++ mo) 7 = (sb, cb.length, 0)) := by show _ = _; rw [hcb]; exact strD_coded sb mo (by omega) (by omega)
    have hC : ∀ A c w, Rd w A (bvs (cb ++ mo)) → cb.length + mo.length ≤ c → Calls Try.prog 37 #[.slice A (cb.length + mo.length) c] w (RetS w (sb, cb.length, 0)) := fun A c w hR hc => by
      have := hstr_any (cb ++ mo) A c w hR (by rw [List.length_append]; omega) (by rw [List.length_append]; exact hc)
      rw [List.length_append, hst.out] at this
      exact this
    have HB : Hid (bvs cb ++ bvs mo = bvs (cb ++ mo)) := (bvs_append cb mo).symm
    have hcb9 : cb.length ≤ 2000 := by rw [← hcl]; omega
    have HC := Lib.hid hC
    have HCL := Lib.hid hcl
    have HC1 := Lib.hid hc1
    clear hC hcl hc1
    clear hcb hst
    have hp : Calls Try.prog 40 #[.slice none 0 0, .string ⟨sb.toArray⟩] w31 (RetA (New W) w31 ([] ++ hcode sb)) := huffman_any (New W) [] none 0 ⟨sb.toArray⟩ w31 HU.out App.none_ (by simp) (by omega)
    refine hp.mono ?_
    rintro e w4 ⟨A4, c4, rfl, hA4, hF4⟩
    rw [List.nil_append, hch] at hA4
    rw [List.nil_append, hch]
    have hR4 := hA4.rd
    have hF34 : Frm (New W) w31 w4 := hF4
    have hu4 := HU.out.of hF4.size
    clear hp hA4 hF4
    have HCH := Lib.hid hch
    clear hch
    go_wp2_with (fail)
    have hp : Calls Try.prog 39 #[.slice none 0 0, .int .u8 128, .int .i64 7, .int .u64 (hlen sb : Int)] w4 (RetA (New w4) w4 ([] ++ pfx 128 7 (hlen sb))) := rprefix_nat (New w4) [] none 0 128 7 (hlen sb) w4 Up.new App.none_ (by simp) (by omega) (by omega) (by omega) (by omega)
    refine hp.mono ?_
    rintro e w5 ⟨A5, c5, rfl, hA5, hF5⟩
    rw [List.nil_append] at hA5 ⊢
    have hR5 := hR4.fresh hF5
    have hF35 := hF34.trans (hF5.up hu4)
    have hA5 := hA5.mono (M' := New W) (fun k hk => hu4 k hk)
    have hu5 := HU.out.of hF35.size
    clear hp hR4 hF34 hu4 hF5
    have t1 := trivial
    have t2 := trivial
    have t3 := trivial
    go_wp2_with (first
      | (at_builtin; clear t1; refine wpList_append u8s rfl rfl rfl hA5 hu5 rfl hR5 (by rw [bvs_length, HCH.out, Nat.mul_one]) (bvs_one _) (by omega) ?_
         intro A8 c8 w8 hA8 hF8 _ _
         rw [HCL.out] at hA8 ⊢
         rw [HC1.out] at hA8
         have hF38 := hF35.trans hF8
         have hu8 := HU.out.of hF38.size
         clear hA5 hF35 hF8)
      | (at_builtin; clear t2; refine wpList_append u8s rfl rfl rfl (App.none_ (M := New W)) hu8 rfl hA8.rd (by simp) (bvs_one _) (by omega) ?_
         intro A6 c6 w6 hA6 hF6 _ _
         rw [Nat.zero_add, List.nil_append] at hA6
         rw [Nat.zero_add]
         have hF36 := hF38.trans hF6
         have hu6 := HU.out.of hF36.size
         have hR6 := HR2.out.keep hF36 (fun k hk c => by have := HLOW2.out k hk; unfold New at c; omega)
         clear hA8 hF38 hF6)
      | (at_builtin; clear t3; refine wpList_append u8s rfl rfl rfl hA6 hu6 rfl hR6 (by simp) (bvs_one _) (by omega) ?_
         intro A7 c7 w7 hA7 hF7 _ _
         rw [HB.out] at hA7
         have hF37 := hF36.trans hF7
         have hA7c := hA7.cap
         clear hA6 hF36 hF7))
    refine (HC.out A7 c7 _ hA7.rd hA7c).mono ?_
    rintro e w8 ⟨he8, hF8⟩
    simp only [str] at he8
    subst he8
    go_wp2
    go_ret
    exact ⟨rfl, ((HF13.out.trans hF37).then_new Up.new hF8).below⟩
end Go.Proofs.Ytcebckkpablagaa.M
