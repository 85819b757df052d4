/- RateHulls, the walk: Hull returns the corners from below and from above, or ErrArg. -/
import Derived.Test.YtcbffkkcldnegaaRefX
import Derived.Test.YtcbffkkcldnegaaRefY
import Derived.Test.YtcbffkkcldnegaaLaw2
set_option linter.unusedVariables false
set_option linter.unusedSimpArgs false
namespace Go.Proofs.Tb
open Go.RowKit
attribute [local go_sem] cell_set_same

theorem Sl.il {w : World} {A : Option Addr} {n c : Nat} {xs : List Nat} (h : Sl TN w A n c (xs.map I64)) : Il w A n c (xs.map fun x : Nat => (x : Int)) := by
  have hl := h.len
  rw [List.length_map] at hl
  refine ⟨by rw [List.length_map]; exact hl, h.le, h.cap, fun h0 => ?_⟩
  obtain ⟨b, o, hA, hc⟩ := h.at_int h0
  refine ⟨b, o, hA, fun j hj => ?_⟩
  rw [hc j hj]
  have hj' : j < xs.length := by omega
  simp [List.getD, hj']
theorem SL.il {w : World} {v : Value} {xs : List Nat} (h : SL TN w v (xs.map I64)) : ∃ A c, v = .slice A xs.length c ∧ Il w A xs.length c (xs.map fun x : Nat => (x : Int)) := by
  obtain ⟨A, n, c, rfl, hs⟩ := h
  have hl := hs.len
  rw [List.length_map] at hl
  subst hl
  exact ⟨A, c, rfl, hs.il⟩
/-- What corners returns are the corners that the reference names. -/
theorem CorR.crn {rs : List Rdg} {sg : Int} {v : Value} {w : World} (hv : Vld rs) (h : CorR rs sg v w) : ∃ A c, v = .slice A (crnL (tm rs) (ysg rs sg) rs.length).length c ∧ Il w A (crnL (tm rs) (ysg rs sg) rs.length).length c ((crnL (tm rs) (ysg rs sg) rs.length).map fun x : Nat => (x : Int)) := by
  obtain ⟨b, l, h1, h2, h3⟩ := h
  rw [h1.eq (fun i j g1 g2 => hv.mono_tm g1 g2) h2] at h3
  exact h3.il

set_option maxHeartbeats 3200000 in
set_option maxRecDepth 100000 in
theorem hulls_any (A : Option Addr) (n c : Nat) (xs : List Rdg) (w : World) (h : Rd w A n c xs) :
    Calls Try.prog 8 #[.slice A n c] w (Ret (fun v _ => v = .bool true) w) := by
  have H := Lib.hid h
  clear h
  go_enter Try.func8, Try.ntmps8
  go_wp2_with fail
  refine (few_any A n c xs 40 w H.out (by omega)).mono ?_
  rintro e w1 ⟨v1, rfl, ⟨A1, c1, rfl, hrd⟩, hb1⟩
  obtain ⟨rs, hrs⟩ : ∃ rs, fewL xs 40 = rs := ⟨_, rfl⟩
  rw [hrs] at hrd ⊢
  obtain ⟨m, hm⟩ : ∃ m, rs.length = m := ⟨_, rfl⟩
  have hc1 := hrd.cap
  have hm1 := hrd.le
  have HR1 := Lib.hid hrd
  rw [hm] at HR1 hm1 ⊢
  have HM := Lib.hid hm
  have HB1 := Lib.hid hb1
  clear hrd hb1 hm hrs
  go_wp2_with fail
  refine (rhull_any A1 m c1 rs _ HR1.out).mono ?_
  rintro e w2 ⟨v2, rfl, h2, hb2⟩
  by_cases hv : Vld rs
  · obtain ⟨p, q, hp, hq, hv2⟩ := h2.2 hv
    obtain ⟨A2, c2, rfl, hil2⟩ := hp.crn hv
    obtain ⟨A3, c3, rfl, hil3⟩ := hq.crn hv
    subst hv2
    obtain ⟨L1, hL1⟩ : ∃ L, crnL (tm rs) (ysg rs 1) rs.length = L := ⟨_, rfl⟩
    obtain ⟨L2, hL2⟩ : ∃ L, crnL (tm rs) (ysg rs (-1)) rs.length = L := ⟨_, rfl⟩
    rw [hL1] at hil2 ⊢
    rw [hL2] at hil3 ⊢
    obtain ⟨n1, hn1⟩ : ∃ n, L1.length = n := ⟨_, rfl⟩
    obtain ⟨n2, hn2⟩ : ∃ n, L2.length = n := ⟨_, rfl⟩
    rw [hn1] at hil2 ⊢
    rw [hn2] at hil3 ⊢
    have HV := Lib.hid hv
    have HI2 := Lib.hid hil2
    have HI3 := Lib.hid hil3
    have HL1 := Lib.hid hL1
    have HL2 := Lib.hid hL2
    have HN1 := Lib.hid hn1
    have HN2 := Lib.hid hn2
    have HB2 := Lib.hid hb2
    clear hv h2 hp hq hil2 hil3 hL1 hL2 hn1 hn2 hb2
    go_wp2_with fail
    refine (zvld_any A1 m c1 rs w2 (HR1.out.below HB2.out)).mono ?_
    rintro e w3 ⟨v3, rfl, hv3, hb3⟩
    rw [vld_true HV.out] at hv3
    subst hv3
    have HB3 := Lib.hid (bt HB2.out hb3)
    have HI2 := Lib.hid (HI2.out.below hb3)
    have HI3 := Lib.hid (HI3.out.below hb3)
    clear hb3
    go_wp2_with fail
    refine (zhull_any A1 m c1 rs 1 w3 (HR1.out.below HB3.out) HV.out (Or.inl rfl)).mono ?_
    rintro e w4 ⟨v4, rfl, hz4, hb4⟩
    obtain ⟨A4, c4, rfl, hil4⟩ := SL.il hz4
    rw [HL1.out, HN1.out] at hil4 ⊢
    have HB4 := Lib.hid (bt HB3.out hb4)
    have HI2 := Lib.hid (HI2.out.below hb4)
    have HI3 := Lib.hid (HI3.out.below hb4)
    have HI4 := Lib.hid hil4
    clear hb4 hil4 hz4
    go_wp2_with fail
    refine (same_any A2 A4 n1 c2 n1 c4 _ _ w4 HI2.out HI4.out).mono ?_
    rintro e w5 ⟨v5, rfl, hv5, hb5⟩
    rw [sameB_t rfl] at hv5
    subst hv5
    have HB5 := Lib.hid (bt HB4.out hb5)
    have HI3 := Lib.hid (HI3.out.below hb5)
    clear hb5
    go_wp2_with fail
    refine (zhull_any A1 m c1 rs (-1) w5 (HR1.out.below HB5.out) HV.out (Or.inr rfl)).mono ?_
    rintro e w6 ⟨v6, rfl, hz6, hb6⟩
    obtain ⟨A6, c6, rfl, hil6⟩ := SL.il hz6
    rw [HL2.out, HN2.out] at hil6 ⊢
    have HB6 := Lib.hid (bt HB5.out hb6)
    have HI3 := Lib.hid (HI3.out.below hb6)
    have HI6 := Lib.hid hil6
    clear hb6 hil6 hz6
    go_wp2_with fail
    refine (same_any A3 A6 n2 c3 n2 c6 _ _ w6 HI3.out HI6.out).mono ?_
    rintro e w7 ⟨v7, rfl, hv7, hb7⟩
    rw [sameB_t rfl] at hv7
    subst hv7
    have HB7 := Lib.hid (bt HB6.out hb7)
    clear hb7
    go_wp2_with fail
    refine (lives_any _).mono ?_
    rintro e w8 ⟨v8, rfl, hv8, hb8⟩
    subst hv8
    go_wp2
    go_returns
    exact ⟨_, rfl, rfl, bt HB1.out (bt HB7.out hb8)⟩
  · have hv2 := h2.1 hv
    subst hv2
    have HV := Lib.hid hv
    have HB2 := Lib.hid hb2
    clear hv h2 hb2
    go_wp2_with fail
    refine (zvld_any A1 m c1 rs w2 (HR1.out.below HB2.out)).mono ?_
    rintro e w3 ⟨v3, rfl, hv3, hb3⟩
    rw [vld_false HV.out] at hv3
    subst hv3
    have HB3 := Lib.hid (bt HB2.out hb3)
    clear hb3
    go_wp2_with fail
    refine (lives_any _).mono ?_
    rintro e w8 ⟨v8, rfl, hv8, hb8⟩
    subst hv8
    go_wp2
    go_returns
    exact ⟨_, rfl, rfl, bt HB1.out (bt HB3.out hb8)⟩
end Go.Proofs.Tb
