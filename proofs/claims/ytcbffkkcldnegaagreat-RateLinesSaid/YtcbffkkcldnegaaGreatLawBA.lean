/- RateLines, the walk: Squares and Median return what the reference names. -/
import Derived.Test.YtcbffkkcldnegaaGreatZmed
import Derived.Test.YtcbffkkcldnegaaGreatZsq
import Derived.Test.YtcbffkkcldnegaaGreatLaw2
set_option linter.unusedVariables false
set_option linter.unusedSimpArgs false
namespace Go.Proofs.Tb
open Go.RowKit
attribute [local go_sem] cell_set_same

set_option maxHeartbeats 6400000 in
set_option maxRecDepth 100000 in
theorem lines_any (A : Option Addr) (n c : Nat) (xs : List Rdg) (w : World) (h : Rd w A n c xs) :
    Calls Tryz.prog 3 #[.slice A n c] w (Ret (fun v _ => v = .bool true) w) := by
  have H := Lib.hid h
  clear h
  go_enter Tryz.func3, Tryz.ntmps3
  go_wp2_with fail
  refine (few_any A n c xs 12 w H.out (by omega)).mono ?_
  rintro e w1 ⟨v1, rfl, ⟨A1, c1, rfl, hrd1⟩, hb1⟩
  obtain ⟨rs, hrs⟩ : ∃ r, fewL xs 12 = r := ⟨_, rfl⟩
  rw [hrs] at hrd1 ⊢
  obtain ⟨m, hm⟩ : ∃ m, rs.length = m := ⟨_, rfl⟩
  rw [hm] at hrd1 ⊢
  have hm1 := hrd1.le
  have hc1 := hrd1.cap
  have HM := Lib.hid hm
  have HR1 := Lib.hid hrd1
  have HB1 := Lib.hid hb1
  clear hrs hm hrd1 hb1
  go_wp2_with fail
  refine (rsquares_any A1 m c1 rs _ HR1.out).mono ?_
  rintro e w2 ⟨v2, rfl, h2, hb2⟩
  have HB2 := Lib.hid hb2
  clear hb2
  by_cases g : Vld rs
  rotate_left
  · have hv2 := h2.1 g
    subst hv2
    clear h2
    go_upto_region 3 with fail
    refine wp_world (fun W => Blk W w2.heap.size TAL #[.int .i64 0, .int .i64 0, .int .i64 0, .int .i64 0] ∧ Below w2.heap.size w2 W) (by exact ⟨Blk.new_ _ _ rfl, by go_grown⟩) ?_
    rintro W3 ⟨b4, hb3⟩
    have B4 := Lib.hid b4
    have HB3 := Lib.hid (bt HB2.out hb3)
    clear b4 hb3 HB2
    go_wp2_with fail
    refine (rmedian_any A1 m c1 rs W3 (HR1.out.below HB3.out)).mono ?_
    rintro e w4 ⟨v4, rfl, h4, hb4⟩
    have hv4 := h4.1 g
    subst hv4
    clear h4
    have B4 := Lib.hid (B4.out.below hb4)
    have HB4 := Lib.hid (bt HB3.out hb4)
    clear hb4 HB3
    go_upto_region 4 with fail
    refine wp_world (fun W => Blk W w4.heap.size TAL #[.int .i64 0, .int .i64 0, .int .i64 0, .int .i64 0] ∧ Below w4.heap.size w4 W) (by exact ⟨Blk.new_ _ _ rfl, by go_grown⟩) ?_
    rintro W5 ⟨b6, hb5⟩
    have B6 := Lib.hid b6
    have B4 := Lib.hid (B4.out.below hb5)
    have HB5 := Lib.hid (bt HB4.out hb5)
    clear b6 hb5 HB4
    go_wp2_with fail
    refine (zvld_any A1 m c1 rs W5 (HR1.out.below HB5.out)).mono ?_
    rintro e w6 ⟨v6, rfl, hv6, hb6⟩
    rw [vld_false g] at hv6
    subst hv6
    have k4 := zcells (B4.out.below hb6)
    have k6 := zcells (B6.out.below hb6)
    have HBE := Lib.hid (bt HB1.out (bt HB5.out hb6))
    clear hb6 g
    go_wp2_with fail
    refine (lives_any _).mono ?_
    rintro e w7 ⟨v7, rfl, hv7, hb7⟩
    subst hv7
    go_wp2
    go_returns
    exact ⟨_, rfl, rfl, bt HBE.out hb7⟩
  obtain ⟨p1, p2, p3, p4, pe, hp⟩ := LineQ.exM (sqS rs) (sqH rs)
  obtain ⟨q1, q2, q3, q4, qe, hq⟩ := LineQ.exM (medS rs) (medH rs)
  have HP := Lib.hid hp
  have HQ := Lib.hid hq
  have HV := Lib.hid g
  have hv2 := hp _ (h2.q g)
  subst hv2
  clear h2 hp hq g
  go_upto_region 3 with fail
  refine wp_world (fun W => Blk W w2.heap.size TAL #[.int .i64 p1, .int .i64 p2, .int .i64 p3, .int .i64 p4] ∧ Below w2.heap.size w2 W) (by exact ⟨Blk.new_ _ _ rfl, by go_grown⟩) ?_
  rintro W3 ⟨b4, hb3⟩
  have B4 := Lib.hid b4
  have HB3 := Lib.hid (bt HB2.out hb3)
  clear b4 hb3 HB2
  go_wp2_with fail
  refine (rmedian_any A1 m c1 rs W3 (HR1.out.below HB3.out)).mono ?_
  rintro e w4 ⟨v4, rfl, h4, hb4⟩
  have hv4 := HQ.out _ (h4.2 HV.out)
  subst hv4
  clear h4
  have B4 := Lib.hid (B4.out.below hb4)
  have HB4 := Lib.hid (bt HB3.out hb4)
  clear hb4 HB3
  go_upto_region 4 with fail
  refine wp_world (fun W => Blk W w4.heap.size TAL #[.int .i64 q1, .int .i64 q2, .int .i64 q3, .int .i64 q4] ∧ Below w4.heap.size w4 W) (by exact ⟨Blk.new_ _ _ rfl, by go_grown⟩) ?_
  rintro W5 ⟨b6, hb5⟩
  have B6 := Lib.hid b6
  have B4 := Lib.hid (B4.out.below hb5)
  have HB5 := Lib.hid (bt HB4.out hb5)
  clear b6 hb5 HB4
  go_wp2_with fail
  refine (zvld_any A1 m c1 rs W5 (HR1.out.below HB5.out)).mono ?_
  rintro e w6 ⟨v6, rfl, hv6, hb6⟩
  rw [vld_true HV.out] at hv6
  subst hv6
  have HB6 := Lib.hid (bt HB5.out hb6)
  have B4 := Lib.hid (B4.out.below hb6)
  have B6 := Lib.hid (B6.out.below hb6)
  clear hb6 HB5
  go_wp2_with fail
  refine (zsqline_any A1 m c1 rs w6 (HR1.out.below HB6.out) HV.out).mono ?_
  rintro e w7 ⟨v7, rfl, hz7, hb7⟩
  go_wp2_with fail
  refine (zplain_any v7 _ _ 58 w7 hz7 (by omega)).mono ?_
  rintro e w8 ⟨v8, rfl, hv8, hb8⟩
  have hv8' := HP.out _ hv8
  subst hv8'
  have HB8 := Lib.hid (bt HB6.out (bt hb7 hb8))
  have B4 := Lib.hid (B4.out.below (bt hb7 hb8))
  have B6 := Lib.hid (B6.out.below (bt hb7 hb8))
  clear hv8 hz7 hb7 hb8 HB6
  go_upto_region 7 with fail
  refine wp_world (fun W => Blk W w8.heap.size TAL #[.int .i64 p1, .int .i64 p2, .int .i64 p3, .int .i64 p4] ∧ Below w8.heap.size w8 W) (by exact ⟨Blk.new_ _ _ rfl, by go_grown⟩) ?_
  rintro W9 ⟨b8, hb9⟩
  have B8 := Lib.hid b8
  have B4 := Lib.hid (B4.out.below hb9)
  have B6 := Lib.hid (B6.out.below hb9)
  have HB9 := Lib.hid (bt HB8.out hb9)
  clear b8 hb9 HB8
  go_wp2_with fail
  refine (zmedian_any A1 m c1 rs W9 (HR1.out.below HB9.out) HV.out).mono ?_
  rintro e w10 ⟨v10, rfl, hz10, hb10⟩
  go_wp2_with fail
  refine (zplain_any v10 _ _ 80 w10 hz10 (by omega)).mono ?_
  rintro e w11 ⟨v11, rfl, hv11, hb11⟩
  have hv11' := HQ.out _ hv11
  subst hv11'
  have HB11 := Lib.hid (bt HB9.out (bt hb10 hb11))
  have B4 := Lib.hid (B4.out.below (bt hb10 hb11))
  have B6 := Lib.hid (B6.out.below (bt hb10 hb11))
  have B8 := Lib.hid (B8.out.below (bt hb10 hb11))
  clear hv11 hz10 hb10 hb11 HB9
  go_upto_region 8 with fail
  refine wp_world (fun W => Blk W w11.heap.size TAL #[.int .i64 q1, .int .i64 q2, .int .i64 q3, .int .i64 q4] ∧ Below w11.heap.size w11 W) (by exact ⟨Blk.new_ _ _ rfl, by go_grown⟩) ?_
  rintro W12 ⟨b10, hb12⟩
  have k4 := zcells (B4.out.below hb12)
  have k6 := zcells (B6.out.below hb12)
  have k8 := zcells (B8.out.below hb12)
  have k10 := zcells b10
  have HBE := Lib.hid (bt HB1.out (bt HB11.out hb12))
  clear b10 hb12 HB11
  go_wp2_with fail
  refine (lives_any _).mono ?_
  rintro e w13 ⟨v13, rfl, hv13, hb13⟩
  subst hv13
  go_wp2
  go_returns
  exact ⟨_, rfl, rfl, bt HBE.out hb13⟩
end Go.Proofs.Tb
