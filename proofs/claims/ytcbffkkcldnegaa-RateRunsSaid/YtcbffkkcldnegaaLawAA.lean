/- RateRuns, the walk: Longest and Pieces return the runs that the document names, or ErrArg. -/
import Derived.Test.YtcbffkkcldnegaaRefZ
import Derived.Test.YtcbffkkcldnegaaRefX
import Derived.Test.YtcbffkkcldnegaaLaw2
set_option linter.unusedVariables false
set_option linter.unusedSimpArgs false
namespace Go.Proofs.Tb
open Go.RowKit
attribute [local go_sem] cell_set_same

theorem qv_nonneg {p q : Int} (hq : 0 < q) (hp : 0 ≤ p) : 0 ≤ qv p q := by
  rcases Int.lt_or_eq_of_le hp with h | h
  · exact Rat.le_of_lt ((qv_pos hq).2 h)
  · rw [(qv_zero (by omega)).2 h.symm]; exact Rat.le_refl
theorem Sl.ilN {w : World} {A : Option Addr} {n c : Nat} {xs : List Nat} (h : Sl TN w A n c (xs.map I64)) : Il w A n c (xs.map fun x : Nat => (x : Int)) := by
  have hl := h.len
  rw [List.length_map] at hl
  refine ⟨by rw [List.length_map]; exact hl, h.le, h.cap, fun h0 => ?_⟩
  obtain ⟨b, o, hA, hc⟩ := h.at_int h0
  refine ⟨b, o, hA, fun j hj => ?_⟩
  rw [hc j hj]
  have hj' : j < xs.length := by omega
  simp [List.getD, hj']

set_option maxHeartbeats 6400000 in
set_option maxRecDepth 100000 in
theorem runs_any (A : Option Addr) (n c : Nat) (xs : List Rdg) (a b : Int) (w : World) (h : Rd w A n c xs) (ha : rngI a) (hb : rngI b) :
    Calls Try.prog 12 #[.slice A n c, .agg #[.int .i64 a, .int .i64 b]] w (Ret (fun v _ => v = .bool true) w) := by
  have H := Lib.hid h
  have HA := Lib.hid ha
  have HB := Lib.hid hb
  clear h ha hb
  go_enter Try.func12, Try.ntmps12
  go_wp2_with fail
  obtain ⟨W0, hW0⟩ : ∃ W0, W0 = w.alloc (.cells #[.int .i64 a, .int .i64 b] TF) := ⟨_, rfl⟩
  have e3 : Blk W0 w.heap.size TF #[.int .i64 a, .int .i64 b] := by rw [hW0]; exact Blk.new_ _ _ rfl
  have hb0 : Below w.heap.size w W0 := by rw [hW0]; go_grown
  rw [← hW0]
  clear hW0
  refine (few_any A n c xs 7 W0 (H.out.below hb0) (by omega)).mono ?_
  rintro e w1 ⟨v1, rfl, ⟨A1, c1, rfl, hrd⟩, hb1⟩
  obtain ⟨rs, hrs⟩ : ∃ rs, fewL xs 7 = rs := ⟨_, rfl⟩
  rw [hrs] at hrd ⊢
  obtain ⟨m, hm⟩ : ∃ m, rs.length = m := ⟨_, rfl⟩
  have hc1 := hrd.cap
  have hm1 := hrd.le
  have HR1 := Lib.hid hrd
  rw [hm] at HR1 hm1 ⊢
  have HM := Lib.hid hm
  have E3 := Lib.hid (e3.below hb1)
  have HB1 := Lib.hid (bt hb0 hb1)
  have k3 := E3.out.cells
  simp only [cellsAre, Nat.zero_add, Nat.reduceAdd, and_true] at k3
  clear hrd hb1 hm hrs hb0 e3
  go_wp2_with fail
  refine (rlongest_any A1 m c1 rs a b _ HR1.out HA.out HB.out).mono ?_
  rintro e w2 ⟨v2, rfl, h2, hb2⟩
  by_cases hok : AskOk rs a b
  rotate_left
  · have hv2 := h2.1 hok
    subst hv2
    have HK := Lib.hid hok
    have HB2 := Lib.hid (show Ext w1 w2 from hb2)
    clear hok h2 k3 hb2
    have k3 := (E3.out.below HB2.out).cells
    simp only [cellsAre, Nat.zero_add, Nat.reduceAdd, and_true] at k3
    go_wp2_with fail
    refine (rpieces_any A1 m c1 rs a b _ (HR1.out.below HB2.out) HA.out HB.out).mono ?_
    rintro e w3 ⟨v3, rfl, h3, hb3⟩
    have hv3 := h3.1 HK.out
    subst hv3
    have HB3 := Lib.hid (show Ext w1 w3 from bt HB2.out hb3)
    clear h3 k3 hb3
    go_wp2_with fail
    refine (zvld_any A1 m c1 rs w3 (HR1.out.below HB3.out)).mono ?_
    rintro e w4 ⟨v4, rfl, hv4, hb4⟩
    have HB4 := Lib.hid (show Ext w1 w4 from bt HB3.out hb4)
    clear hb4
    by_cases hv : Vld rs
    rotate_left
    · rw [vld_false hv] at hv4
      subst hv4
      clear hv
      go_wp2_with fail
      refine (lives_any _).mono ?_
      rintro e w11 ⟨v11, rfl, hv11, hb11⟩
      subst hv11
      go_wp2
      go_returns
      exact ⟨_, rfl, rfl, bt HB1.out (bt HB4.out hb11)⟩
    rw [vld_true hv] at hv4
    subst hv4
    have HV := Lib.hid hv
    clear hv
    have k3 := (E3.out.below HB4.out).cells
    simp only [cellsAre, Nat.zero_add, Nat.reduceAdd, and_true] at k3
    go_wp2_with fail
    refine (zvalid_any a b _ HA.out.1 HA.out.2 HB.out.1 HB.out.2).mono ?_
    rintro e w5 ⟨v5, rfl, hv5, hb5⟩
    have HB5 := Lib.hid (show Ext w1 w5 from bt HB4.out hb5)
    clear hb5 k3
    by_cases hf : VF a b
    rotate_left
    · rw [vF_false hf] at hv5
      subst hv5
      clear hf
      go_wp2_with fail
      refine (lives_any _).mono ?_
      rintro e w11 ⟨v11, rfl, hv11, hb11⟩
      subst hv11
      go_wp2
      go_returns
      exact ⟨_, rfl, rfl, bt HB1.out (bt HB5.out hb11)⟩
    rw [vF_true hf] at hv5
    subst hv5
    have h0 : ¬ 0 ≤ a := fun h0 => HK.out ⟨HV.out, hf, h0⟩
    have g1 : decide (a < 0) = true := by simp; omega
    clear hf h0
    have k3 := (E3.out.below HB5.out).cells
    simp only [cellsAre, Nat.zero_add, Nat.reduceAdd, and_true] at k3
    go_wp2_with fail
    refine (lives_any _).mono ?_
    rintro e w11 ⟨v11, rfl, hv11, hb11⟩
    subst hv11
    go_wp2
    go_returns
    exact ⟨_, rfl, rfl, bt HB1.out (bt HB5.out hb11)⟩
  · obtain ⟨i, k, hv2, hlg⟩ := h2.2 hok
    subst hv2
    have HK := Lib.hid hok
    have HG := Lib.hid hlg
    have HB2 := Lib.hid (show Ext w1 w2 from hb2)
    clear hok h2 k3 hb2 hlg
    have k3 := (E3.out.below HB2.out).cells
    simp only [cellsAre, Nat.zero_add, Nat.reduceAdd, and_true] at k3
    go_wp2_with fail
    refine (rpieces_any A1 m c1 rs a b _ (HR1.out.below HB2.out) HA.out HB.out).mono ?_
    rintro e w3 ⟨v3, rfl, h3, hb3⟩
    obtain ⟨ps, A3, n3, c3, hv3, hsl, hpc⟩ := h3.2 HK.out
    subst hv3
    have HPC := Lib.hid hpc
    have HSL := Lib.hid hsl
    have HB3 := Lib.hid (show Ext w1 w3 from bt HB2.out hb3)
    clear h3 k3 hb3 hpc hsl
    go_wp2_with fail
    refine (zvld_any A1 m c1 rs w3 (HR1.out.below HB3.out)).mono ?_
    rintro e w4 ⟨v4, rfl, hv4, hb4⟩
    rw [vld_true HK.out.1] at hv4
    subst hv4
    have HB4 := Lib.hid (show Ext w3 w4 from hb4)
    clear hb4
    have k3 := (E3.out.below (bt HB3.out HB4.out)).cells
    simp only [cellsAre, Nat.zero_add, Nat.reduceAdd, and_true] at k3
    go_wp2_with fail
    refine (zvalid_any a b _ HA.out.1 HA.out.2 HB.out.1 HB.out.2).mono ?_
    rintro e w5 ⟨v5, rfl, hv5, hb5⟩
    rw [vF_true HK.out.2.1] at hv5
    subst hv5
    have HB5 := Lib.hid (show Ext w3 w5 from bt HB4.out hb5)
    clear hb5 k3
    have g1 : decide (a < 0) = false := by have := HK.out.2.2; simp; omega
    have k3 := (E3.out.below (bt HB3.out HB5.out)).cells
    simp only [cellsAre, Nat.zero_add, Nat.reduceAdd, and_true] at k3
    have HQ := Lib.hid (fun W => xof_any a b W HA.out.1 HA.out.2 (by have := HK.out.2.1.1; omega) HB.out.2)
    have HM0 := Lib.hid (qv_nonneg (p := a) (q := b) (by have := HK.out.2.1.1; omega) HK.out.2.2)
    obtain ⟨M, hM⟩ : ∃ M, qv a b = M := ⟨_, rfl⟩
    rw [hM] at HG HPC HQ HM0
    clear hM
    go_wp2_with fail
    refine (HQ.out _).mono ?_
    rintro e w6 ⟨v6, rfl, x6, hb6⟩
    obtain ⟨d0, D0, p0, e0, d1, D1, p1, e1, rfl⟩ := x6.form
    have X6 := Lib.hid x6
    have HB6 := Lib.hid (show Ext w3 w6 from bt HB5.out hb6)
    clear hb6 k3 x6
    go_wp2_with fail
    refine (zlongest_any A1 m c1 rs _ M 5 w6 (HR1.out.below (bt HB3.out HB6.out)) HK.out.1 X6.out (by omega) HM0.out).mono ?_
    rintro e w7 ⟨v7, rfl, ⟨i', k', rfl, hlg'⟩, hb7⟩
    obtain ⟨rfl, rfl⟩ := HG.out.uniq hlg'
    have HB7 := Lib.hid (show Ext w3 w7 from bt HB6.out hb7)
    clear hb7 hlg'
    have k3 := (E3.out.below (bt HB3.out HB7.out)).cells
    simp only [cellsAre, Nat.zero_add, Nat.reduceAdd, and_true] at k3
    go_wp2_with fail
    refine (HQ.out _).mono ?_
    rintro e w8 ⟨v8, rfl, x8, hb8⟩
    obtain ⟨d0', D0', p0', e0', d1', D1', p1', e1', rfl⟩ := x8.form
    have X8 := Lib.hid x8
    have HB8 := Lib.hid (show Ext w3 w8 from bt HB7.out hb8)
    clear hb8 k3 x8
    go_wp2_with fail
    refine (zpieces_any A1 m c1 rs _ M 5 w8 (HR1.out.below (bt HB3.out HB8.out)) HK.out.1 X8.out (by omega) HM0.out).mono ?_
    rintro e w9 ⟨v9, rfl, ⟨qs, A9, n9, c9, rfl, hsl9, hpc9⟩, hb9⟩
    have hpq := HPC.out.uniq hpc9
    subst hpq
    have HB9 := Lib.hid (show Ext w3 w9 from bt HB8.out hb9)
    have HI9 := Lib.hid hsl9.ilN
    have HI3 := Lib.hid (HSL.out.ilN.below HB9.out)
    clear hb9 hsl9 hpc9
    go_wp2_with fail
    refine (same_any A3 A9 n3 c3 n9 c9 _ _ w9 HI3.out HI9.out).mono ?_
    rintro e w10 ⟨v10, rfl, hv10, hb10⟩
    rw [sameB_t rfl] at hv10
    subst hv10
    have HB10 := Lib.hid (show Ext w3 w10 from bt HB9.out hb10)
    clear hb10
    go_wp2_with fail
    refine (lives_any _).mono ?_
    rintro e w11 ⟨v11, rfl, hv11, hb11⟩
    subst hv11
    go_wp2
    go_returns
    exact ⟨_, rfl, rfl, bt HB1.out (bt HB3.out (bt HB10.out hb11))⟩
end Go.Proofs.Tb
