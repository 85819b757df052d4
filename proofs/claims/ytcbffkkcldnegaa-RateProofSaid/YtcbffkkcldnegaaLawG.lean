/- RateSlopes, the walk: Slope returns the slope that the reference names, or ErrArg. -/
import Derived.Test.YtcbffkkcldnegaaLaw1
import Derived.Test.YtcbffkkcldnegaaLaw2
import Derived.Test.YtcbffkkcldnegaaRate4
import Derived.Test.YtcbffkkcldnegaaRef3
set_option linter.unusedVariables false
set_option linter.unusedSimpArgs false
namespace Go.Proofs.Tb
open Go.RowKit
attribute [local go_sem] cell_set_same

theorem FracQ.form {x : Rat} {v : Value} (h : FracQ x v) : ∃ a b e : Int, v = .tuple #[.agg #[.int .i64 a, .int .i64 b], .int .i64 e] := by
  by_cases hf : fitQ x
  · exact ⟨_, _, _, h.1 hf⟩
  · exact ⟨_, _, _, h.2 hf⟩
theorem FracQ.det {x : Rat} {v v' : Value} (h : FracQ x v) (h' : FracQ x v') : v = v' := by
  by_cases hf : fitQ x
  · rw [h.1 hf, h'.1 hf]
  · rw [h.2 hf, h'.2 hf]
theorem SlopeR.form {rs : List Rdg} {i j : Int} {v : Value} (h : SlopeR rs i j v) : ∃ a b e : Int, v = .tuple #[.agg #[.int .i64 a, .int .i64 b], .int .i64 e] := by
  by_cases hf : SlOk rs i j
  · exact (h.1 hf).form
  · exact ⟨_, _, _, h.2 hf⟩
theorem ZR.frac {w : World} {v : Value} {x : Rat} {s : Nat} (h : ZR w v x s) (hs : s ≤ 100000000000) : Calls Try.prog 31 #[v] w (Ret (fun v _ => FracQ x v) w) := by
  refine (zfrac_any v _ _ w h.1 (Nat.le_trans h.2.1 hs) (Nat.le_trans h.2.2 hs)).mono ?_
  rintro e w' ⟨v', he, hf, hb⟩
  have := hf.q (den_pos' x)
  rw [qv_self] at this
  exact ⟨v', he, this, hb⟩

set_option maxHeartbeats 3200000 in
set_option maxRecDepth 100000 in
theorem slopes_any (A : Option Addr) (n c : Nat) (xs : List Rdg) (i j : Int) (w : World) (h : Rd w A n c xs) (hi : rngI i) (hj : rngI j) :
    Calls Try.prog 5 #[.slice A n c, .int .i64 i, .int .i64 j] w (Ret (fun v _ => v = .bool true) w) := by
  have HI := Lib.hid hi
  have HJ := Lib.hid hj
  have H := Lib.hid h
  clear h hi hj
  go_enter Try.func5, Try.ntmps5
  go_wp2_with fail
  refine (few_any A n c xs 64 _ H.out (by omega)).mono ?_
  rintro e w1 ⟨v1, rfl, ⟨A1, c1, rfl, hrd1⟩, hb1⟩
  obtain ⟨rs, hrs⟩ : ∃ r, fewL xs 64 = r := ⟨_, rfl⟩
  rw [hrs] at hrd1 ⊢
  obtain ⟨m, hm⟩ : ∃ m, rs.length = m := ⟨_, rfl⟩
  rw [hm] at hrd1 ⊢
  have hm1 := hrd1.le
  have hc1 := hrd1.cap
  have HM := Lib.hid hm
  have HR1 := Lib.hid hrd1
  have HB1 := Lib.hid hb1
  clear hrs hm hrd1 hb1
  go_wp2_with fail
  refine (rslope_any A1 m c1 rs i j _ HR1.out HI.out HJ.out).mono ?_
  rintro e w2 ⟨v2, rfl, hsl, hb2⟩
  obtain ⟨a, b, er, rfl⟩ := hsl.form
  have HSL := Lib.hid hsl
  have HB2 := Lib.hid hb2
  clear hsl hb2
  have HOK : Hid (SlOk rs i j ↔ (Vld rs ∧ 0 ≤ i ∧ i < (m : Int) ∧ 0 ≤ j ∧ j < (m : Int) ∧ i ≠ j)) := by
    show SlOk rs i j ↔ _
    unfold SlOk
    rw [HM.out]
  go_wp2_with fail
  obtain ⟨W3, hW3⟩ : ∃ W0, W0 = w2.alloc (.cells #[.int .i64 a, .int .i64 b] TF) := ⟨_, rfl⟩
  have b3 : Blk W3 w2.heap.size TF #[.int .i64 a, .int .i64 b] := by rw [hW3]; exact Blk.new_ _ _ rfl
  have hb3 : Below w2.heap.size w2 W3 := by rw [hW3]; go_grown
  rw [← hW3]
  clear hW3
  refine (zvld_any A1 m c1 rs W3 ((HR1.out.below HB2.out).below hb3)).mono ?_
  rintro e w4 ⟨v4, rfl, hv4, hb4⟩
  have k4 := (b3.below hb4).cells
  simp only [cellsAre, Nat.zero_add, Nat.reduceAdd, and_true] at k4
  have HB4 := Lib.hid (bt HB2.out (bt hb3 hb4))
  have HBLK := Lib.hid (b3.below hb4)
  clear b3 hb3 hb4
  have BADV : Hid (¬ SlOk rs i j → a = 0 ∧ b = 0 ∧ er = 1) := fun hno => by
    have := HSL.out.2 hno
    injection this with this
    simp at this
    exact ⟨this.1.1, this.1.2, this.2⟩
  by_cases g : Vld rs
  · rw [vld_true g] at hv4
    subst hv4
    by_cases g1 : i < 0
    · have d1 : decide (i < 0) = true := by simpa using g1
      obtain ⟨rfl, rfl, rfl⟩ := BADV.out (by rw [HOK.out]; omega)
      go_wp2_with (go_at_call 18; refine (lives_any _).mono ?_; rintro e w5 ⟨v5, rfl, rfl, hb5⟩)
      go_returns
      exact ⟨_, rfl, rfl, bt HB1.out (bt HB4.out hb5)⟩
    by_cases g2 : i < (m : Int)
    rotate_left
    · have d1 : decide (i < 0) = false := by simp; omega
      have d2 : decide ((m : Int) ≤ i) = true := by simp; omega
      obtain ⟨rfl, rfl, rfl⟩ := BADV.out (by rw [HOK.out]; omega)
      go_wp2_with (go_at_call 18; refine (lives_any _).mono ?_; rintro e w5 ⟨v5, rfl, rfl, hb5⟩)
      go_returns
      exact ⟨_, rfl, rfl, bt HB1.out (bt HB4.out hb5)⟩
    by_cases g3 : j < 0
    · have d1 : decide (i < 0) = false := by simp; omega
      have d2 : decide ((m : Int) ≤ i) = false := by simp; omega
      have d3 : decide (j < 0) = true := by simpa using g3
      obtain ⟨rfl, rfl, rfl⟩ := BADV.out (by rw [HOK.out]; omega)
      go_wp2_with (go_at_call 18; refine (lives_any _).mono ?_; rintro e w5 ⟨v5, rfl, rfl, hb5⟩)
      go_returns
      exact ⟨_, rfl, rfl, bt HB1.out (bt HB4.out hb5)⟩
    by_cases g4 : j < (m : Int)
    rotate_left
    · have d1 : decide (i < 0) = false := by simp; omega
      have d2 : decide ((m : Int) ≤ i) = false := by simp; omega
      have d3 : decide (j < 0) = false := by simp; omega
      have d4 : decide ((m : Int) ≤ j) = true := by simp; omega
      obtain ⟨rfl, rfl, rfl⟩ := BADV.out (by rw [HOK.out]; omega)
      go_wp2_with (go_at_call 18; refine (lives_any _).mono ?_; rintro e w5 ⟨v5, rfl, rfl, hb5⟩)
      go_returns
      exact ⟨_, rfl, rfl, bt HB1.out (bt HB4.out hb5)⟩
    by_cases g5 : i = j
    · have d1 : decide (i < 0) = false := by simp; omega
      have d2 : decide ((m : Int) ≤ i) = false := by simp; omega
      have d3 : decide (j < 0) = false := by simp; omega
      have d4 : decide ((m : Int) ≤ j) = false := by simp; omega
      obtain ⟨rfl, rfl, rfl⟩ := BADV.out (by rw [HOK.out]; omega)
      subst g5
      go_wp2_with (go_at_call 18; refine (lives_any _).mono ?_; rintro e w5 ⟨v5, rfl, rfl, hb5⟩)
      go_returns
      exact ⟨_, rfl, rfl, bt HB1.out (bt HB4.out hb5)⟩
    obtain ⟨I, hI⟩ : ∃ I : Nat, i = (I : Int) := ⟨i.toNat, by omega⟩
    obtain ⟨J, hJ⟩ : ∃ J : Nat, j = (J : Int) := ⟨j.toNat, by omega⟩
    subst hI hJ
    have hi' : I < m := by omega
    have hj' : J < m := by omega
    have hne : I ≠ J := by omega
    have hfq := HSL.out.1 (HOK.out.2 ⟨g, by omega, by omega, by omega, by omega, by omega⟩)
    have HFQ := Lib.hid (show FracQ (slQ rs I J) (.tuple #[.agg #[.int .i64 a, .int .i64 b], .int .i64 er]) from hfq)
    have HSLP : Hid (∀ W, Rd W A1 m c1 rs → Calls Try.prog 32 #[.slice A1 m c1, .int .i64 (I : Int), .int .i64 (J : Int)] W (Ret (fun v w' => ZR w' v (slQ rs I J) 10) W)) := fun W hW => zslope_any A1 m c1 rs I J W hW g hi' hj' hne
    clear hfq g1 g3 hi' hj' BADV HOK
    have d1 : decide ((I : Int) < 0) = false := by simp
    have d2 : decide ((m : Int) ≤ (I : Int)) = false := by simp; omega
    have d3 : decide ((J : Int) < 0) = false := by simp
    have d4 : decide ((m : Int) ≤ (J : Int)) = false := by simp; omega
    have d5 : ((I : Int) == (J : Int)) = false := by simp; omega
    have d2' : decide (m ≤ I) = false := by simp; omega
    have d4' : decide (m ≤ J) = false := by simp; omega
    have d6 : (I == J) = false := by simpa using hne
    clear g2 g4 g5 hne g
    go_wp2_with fail
    refine (HSLP.out w4 (HR1.out.below HB4.out)).mono ?_
    rintro e w5 ⟨v5, rfl, hz5, hb5⟩
    go_wp2_with fail
    refine (hz5.frac (by omega)).mono ?_
    rintro e w6 ⟨v6, rfl, hf6, hb6⟩
    have e6 := HFQ.out.det hf6
    subst e6
    have HB6 := Lib.hid (bt HB4.out (bt hb5 hb6))
    have HBLK6 := Lib.hid ((HBLK.out.below hb5).below hb6)
    clear hz5 hf6 hb5 hb6 k4
    go_upto_region 6 with fail
    refine wp_world (fun W5 => Blk W5 w6.heap.size TF #[.int .i64 a, .int .i64 b] ∧ Below w6.heap.size w6 W5) (by exact ⟨Blk.new_ _ _ rfl, by go_grown⟩) ?_
    rintro W5 ⟨e5, hb7⟩
    have k2 := (HBLK6.out.below hb7).cells
    have k5 := e5.cells
    simp only [cellsAre, Nat.zero_add, Nat.reduceAdd, and_true] at k2 k5
    have HW5 := Lib.hid (bt HB1.out (bt HB6.out hb7))
    clear e5 hb7
    go_wp2_with (go_at_call 18; refine (lives_any _).mono ?_; rintro e w8 ⟨v8, rfl, rfl, hb8⟩)
    go_returns
    exact ⟨_, rfl, rfl, bt HW5.out hb8⟩
  · rw [vld_false g] at hv4
    subst hv4
    obtain ⟨rfl, rfl, rfl⟩ := BADV.out (by rw [HOK.out]; exact fun h => g h.1)
    go_wp2_with (go_at_call 18; refine (lives_any _).mono ?_; rintro e w5 ⟨v5, rfl, rfl, hb5⟩)
    go_returns
    exact ⟨_, rfl, rfl, bt HB1.out (bt HB4.out hb5)⟩
end Go.Proofs.Tb
