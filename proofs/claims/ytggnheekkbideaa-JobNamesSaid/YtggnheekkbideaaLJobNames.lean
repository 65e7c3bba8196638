/- JobNames: the examples; the ends of numbers. -/
import Derived.Test.YtggnheekkbideaaJobAwake
set_option maxRecDepth 100000
namespace Go.Proofs.Ytggnheekkbideaa
open Go.RowKit

set_option maxHeartbeats 8000000 in
theorem jobNames_walk (W : World) : Calls Try.prog 6 #[] W fun e w' => e = .returned (.bool true) ∧ Below W.heap.size W w' := by
  have e0 : fetE 0 ⟨#[97]⟩ 0 1 = 1 := by kernel_rfl
  have E0 := Lib.hid e0
  clear e0
  have e1 : fetE 0 ⟨#[97]⟩ 65 1 = 1 := by kernel_rfl
  have E1 := Lib.hid e1
  clear e1
  have e2 : fetE 0 ⟨#[]⟩ 1 1 = 1 := by kernel_rfl
  have E2 := Lib.hid e2
  clear e2
  have e3 : fetE 0 ⟨#[97]⟩ 1 1048577 = 1 := by kernel_rfl
  have E3 := Lib.hid e3
  clear e3
  have e4 : fetE 1099511627777 ⟨#[97]⟩ 1 1 = 1 := by kernel_rfl
  have E4 := Lib.hid e4
  clear e4
  have e5 : fetE 1099511627776 ⟨#[97]⟩ 64 1048576 = 0 := by kernel_rfl
  have E5 := Lib.hid e5
  clear e5
  have e6 : chgE (mayRev 1) twoL 2 = 250 := by kernel_rfl
  have E6 := Lib.hid e6
  clear e6
  have e7 : chgE (mayRev 1) twoL 9 = 5 := by kernel_rfl
  have E7 := Lib.hid e7
  clear e7
  have e8 : chgE (mayFail ⟨#[]⟩ 0) twoL 2 = 250 := by kernel_rfl
  have E8 := Lib.hid e8
  clear e8
  have e9 : chgE (mayFail ⟨#[]⟩ 0) twoL 4 = 250 := by kernel_rfl
  have E9 := Lib.hid e9
  clear e9
  go_enter Try.func6, Try.ntmps6
  go_wp2_with (go_at_call 32; refine (two_any _).mono ?_; rintro e w0 ⟨v, rfl, hI, hb0⟩; refine Hid.out ?_)
  refine Lib.hid ?_
  have HI := Lib.hid hI
  have HW := Lib.hid hb0
  have hc0 := Below.refl w0.heap.size w0
  have HB0 := Lib.hid hc0
  clear hI hb0 hc0
  have S0 := Lib.hid (fetch_any w0 v twoL 0 ⟨#[97]⟩ 0 1 (HI.out.at_all HB0.out) two_small two_many)
  rw [E0.out] at S0
  go_wp2_with (go_at_call 12; refine S0.out.mono ?_; rintro e w1 ⟨vo, vt, R, rfl, -, -, -, hb⟩; refine Hid.out ?_)
  refine Lib.hid ?_
  have HB1 := Lib.hid (HB0.out.trans (hb.mono HB0.out.size))
  clear hb S0
  have S1 := Lib.hid (fetch_any w1 v twoL 0 ⟨#[97]⟩ 65 1 (HI.out.at_all HB1.out) two_small two_many)
  rw [E1.out] at S1
  go_wp2_with (go_at_call 12; refine S1.out.mono ?_; rintro e w2 ⟨vo, vt, R, rfl, -, -, -, hb⟩; refine Hid.out ?_)
  refine Lib.hid ?_
  have HB2 := Lib.hid (HB1.out.trans (hb.mono HB1.out.size))
  clear hb S1
  have S2 := Lib.hid (fetch_any w2 v twoL 0 ⟨#[]⟩ 1 1 (HI.out.at_all HB2.out) two_small two_many)
  rw [E2.out] at S2
  go_wp2_with (go_at_call 12; refine S2.out.mono ?_; rintro e w3 ⟨vo, vt, R, rfl, -, -, -, hb⟩; refine Hid.out ?_)
  refine Lib.hid ?_
  have HB3 := Lib.hid (HB2.out.trans (hb.mono HB2.out.size))
  clear hb S2
  have S3 := Lib.hid (fetch_any w3 v twoL 0 ⟨#[97]⟩ 1 1048577 (HI.out.at_all HB3.out) two_small two_many)
  rw [E3.out] at S3
  go_wp2_with (go_at_call 12; refine S3.out.mono ?_; rintro e w4 ⟨vo, vt, R, rfl, -, -, -, hb⟩; refine Hid.out ?_)
  refine Lib.hid ?_
  have HB4 := Lib.hid (HB3.out.trans (hb.mono HB3.out.size))
  clear hb S3
  have S4 := Lib.hid (fetch_any w4 v twoL 1099511627777 ⟨#[97]⟩ 1 1 (HI.out.at_all HB4.out) two_small two_many)
  rw [E4.out] at S4
  go_wp2_with (go_at_call 12; refine S4.out.mono ?_; rintro e w5 ⟨vo, vt, R, rfl, -, -, -, hb⟩; refine Hid.out ?_)
  refine Lib.hid ?_
  have HB5 := Lib.hid (HB4.out.trans (hb.mono HB4.out.size))
  clear hb S4
  have S5 := Lib.hid (fetch_any w5 v twoL 1099511627776 ⟨#[97]⟩ 64 1048576 (HI.out.at_all HB5.out) two_small two_many)
  rw [E5.out] at S5
  go_wp2_with (go_at_call 12; refine S5.out.mono ?_; rintro e w6 ⟨vo, vt, R, rfl, -, -, -, hb⟩; refine Hid.out ?_)
  refine Lib.hid ?_
  have HB6 := Lib.hid (HB5.out.trans (hb.mono HB5.out.size))
  clear hb S5
  have S6 := Lib.hid (revive_any w6 v twoL 2 1 (HI.out.at_all HB6.out) two_small two_tri)
  rw [E6.out] at S6
  go_wp2_with (go_at_call 28; refine S6.out.mono ?_; rintro e w7 ⟨vo, R, rfl, -, -, hb⟩; refine Hid.out ?_)
  refine Lib.hid ?_
  have HB7 := Lib.hid (HB6.out.trans (hb.mono HB6.out.size))
  clear hb S6
  have S7 := Lib.hid (revive_any w7 v twoL 9 1 (HI.out.at_all HB7.out) two_small two_tri)
  rw [E7.out] at S7
  go_wp2_with (go_at_call 28; refine S7.out.mono ?_; rintro e w8 ⟨vo, R, rfl, -, -, hb⟩; refine Hid.out ?_)
  refine Lib.hid ?_
  have HB8 := Lib.hid (HB7.out.trans (hb.mono HB7.out.size))
  clear hb S7
  have S8 := Lib.hid (fail_any w8 v twoL 0 ⟨#[]⟩ 2 (HI.out.at_all HB8.out) two_small two_tri)
  rw [E8.out] at S8
  go_wp2_with (go_at_call 15; refine S8.out.mono ?_; rintro e w9 ⟨vo, R, rfl, -, -, hb⟩; refine Hid.out ?_)
  refine Lib.hid ?_
  have HB9 := Lib.hid (HB8.out.trans (hb.mono HB8.out.size))
  clear hb S8
  have S9 := Lib.hid (fail_any w9 v twoL 0 ⟨#[]⟩ 4 (HI.out.at_all HB9.out) two_small two_tri)
  rw [E9.out] at S9
  go_wp2_with (go_at_call 15; refine S9.out.mono ?_; rintro e w10 ⟨vo, R, rfl, -, -, hb⟩; refine Hid.out ?_)
  refine Lib.hid ?_
  have HB10 := Lib.hid (HB9.out.trans (hb.mono HB9.out.size))
  clear hb S9
  have HZ := Lib.hid (HW.out.trans (HB10.out.mono HW.out.size))
  go_wp2_with (go_at_call 10; refine (awake_any _).mono ?_; rintro e wz ⟨rfl, hb⟩)
  go_ret
  exact ⟨ret_bool rfl, HZ.out.trans (hb.mono HZ.out.size)⟩

end Go.Proofs.Ytggnheekkbideaa
