/- RateWorsts, the walk: Worst returns the greatest absolute error that the reference names, or its error. -/
import Derived.Test.YtcbffkkcldnegaaLawG
import Derived.Test.YtcbffkkcldnegaaRate4
set_option linter.unusedVariables false
set_option linter.unusedSimpArgs false
namespace Go.Proofs.Tb
open Go.RowKit
attribute [local go_sem] cell_set_same

theorem WorstR.form {rs : List Rdg} {a b c d : Int} {v : Value} (h : WorstR rs a b c d v) : ∃ a b e : Int, v = .tuple #[.agg #[.int .i64 a, .int .i64 b], .int .i64 e] := by
  by_cases hf : WoOk rs a b c d
  · exact (h.1 hf).form
  · exact ⟨_, _, _, h.2 hf⟩

set_option maxHeartbeats 3200000 in
set_option maxRecDepth 100000 in
theorem worsts_any (A : Option Addr) (n c : Nat) (xs : List Rdg) (la lb lc ld : Int) (w : World) (h : Rd w A n c xs) (h1 : rngI la) (h2 : rngI lb) (h3 : rngI lc) (h4 : rngI ld) :
    Calls Try.prog 10 #[.slice A n c, .agg #[.int .i64 la, .int .i64 lb, .int .i64 lc, .int .i64 ld]] w (Ret (fun v _ => v = .bool true) w) := by
  have H1 := Lib.hid h1
  have H2 := Lib.hid h2
  have H3 := Lib.hid h3
  have H4 := Lib.hid h4
  have H := Lib.hid h
  clear h h1 h2 h3 h4
  go_enter Try.func10, Try.ntmps10
  go_wp2_with fail
  obtain ⟨W0, hW0⟩ : ∃ W0, W0 = w.alloc (.cells #[.int .i64 la, .int .i64 lb, .int .i64 lc, .int .i64 ld] TAL) := ⟨_, rfl⟩
  have e0 : Blk W0 w.heap.size TAL #[.int .i64 la, .int .i64 lb, .int .i64 lc, .int .i64 ld] := by rw [hW0]; exact Blk.new_ _ _ rfl
  have hbw : Below w.heap.size w W0 := by rw [hW0]; go_grown
  rw [← hW0]
  clear hW0
  refine (few_any A n c xs 20 W0 (H.out.below hbw) (by omega)).mono ?_
  rintro e w1 ⟨v1, rfl, ⟨A1, c1, rfl, hrd1⟩, hb1⟩
  obtain ⟨rs, hrs⟩ : ∃ r, fewL xs 20 = r := ⟨_, rfl⟩
  rw [hrs] at hrd1 ⊢
  obtain ⟨m, hm⟩ : ∃ m, rs.length = m := ⟨_, rfl⟩
  rw [hm] at hrd1 ⊢
  have hm1 := hrd1.le
  have hc1 := hrd1.cap
  have HM := Lib.hid hm
  have HR1 := Lib.hid hrd1
  have E0 := Lib.hid (e0.below hb1)
  have HB1 := Lib.hid (bt hbw hb1)
  have k0 := zcells E0.out
  clear hrs hm hrd1 hb1 e0 hbw
  go_wp2_with fail
  refine (rworst_any A1 m c1 rs la lb lc ld _ HR1.out H1.out H2.out H3.out H4.out).mono ?_
  rintro e w2 ⟨v2, rfl, hsl, hb2⟩
  obtain ⟨a, b, er, rfl⟩ := hsl.form
  have HSL := Lib.hid hsl
  have HB2 := Lib.hid hb2
  clear hsl hb2 k0
  go_wp2_with fail
  obtain ⟨W3, hW3⟩ : ∃ W0, W0 = w2.alloc (.cells #[.int .i64 a, .int .i64 b] TF) := ⟨_, rfl⟩
  have b3 : Blk W3 w2.heap.size TF #[.int .i64 a, .int .i64 b] := by rw [hW3]; exact Blk.new_ _ _ rfl
  have hb3 : Below w2.heap.size w2 W3 := by rw [hW3]; go_grown
  rw [← hW3]
  clear hW3
  refine (zvld_any A1 m c1 rs W3 ((HR1.out.below HB2.out).below hb3)).mono ?_
  rintro e w4 ⟨v4, rfl, hv4, hb4⟩
  have k4 := (b3.below hb4).cells
  simp only [cellsAre, Nat.zero_add, Nat.reduceAdd, and_true] at k4
  have HB4 := Lib.hid (bt HB2.out (bt hb3 hb4))
  have HBLK := Lib.hid (b3.below hb4)
  have k0 := zcells (E0.out.below HB4.out)
  clear b3 hb3 hb4
  have BADV : Hid (¬ WoOk rs la lb lc ld → a = 0 ∧ b = 0 ∧ er = 1) := fun hno => by
    have := HSL.out.2 hno
    injection this with this
    simp at this
    exact ⟨this.1.1, this.1.2, this.2⟩
  by_cases g : Vld rs
  rotate_left
  · rw [vld_false g] at hv4
    subst hv4
    obtain ⟨rfl, rfl, rfl⟩ := BADV.out (fun h => g h.1)
    go_wp2_with (go_at_call 18; refine (lives_any _).mono ?_; rintro e w5 ⟨v9, rfl, rfl, hb9⟩)
    go_returns
    exact ⟨_, rfl, rfl, bt HB1.out (bt HB4.out hb9)⟩
  rw [vld_true g] at hv4
  subst hv4
  go_wp2_with fail
  refine (zvalid_any la lb _ H1.out.1 H1.out.2 H2.out.1 H2.out.2).mono ?_
  rintro e w5 ⟨v5, rfl, hv5, hb5⟩
  have k4 := (HBLK.out.below hb5).cells
  simp only [cellsAre, Nat.zero_add, Nat.reduceAdd, and_true] at k4
  have HBLK5 := Lib.hid (HBLK.out.below hb5)
  have HB5 := Lib.hid (bt HB4.out hb5)
  have k0 := zcells (E0.out.below HB5.out)
  clear hb5
  by_cases g1 : VF la lb
  rotate_left
  · rw [vF_false g1] at hv5
    subst hv5
    obtain ⟨rfl, rfl, rfl⟩ := BADV.out (fun h => g1 h.2.1)
    go_wp2_with (go_at_call 18; refine (lives_any _).mono ?_; rintro e w6 ⟨v9, rfl, rfl, hb9⟩)
    go_returns
    exact ⟨_, rfl, rfl, bt HB1.out (bt HB5.out hb9)⟩
  rw [vF_true g1] at hv5
  subst hv5
  go_wp2_with fail
  refine (zvalid_any lc ld _ H3.out.1 H3.out.2 H4.out.1 H4.out.2).mono ?_
  rintro e w6 ⟨v6, rfl, hv6, hb6⟩
  have k4 := (HBLK5.out.below hb6).cells
  simp only [cellsAre, Nat.zero_add, Nat.reduceAdd, and_true] at k4
  have HBLK6 := Lib.hid (HBLK5.out.below hb6)
  have HB6 := Lib.hid (bt HB5.out hb6)
  have k0 := zcells (E0.out.below HB6.out)
  clear hb6
  by_cases g2 : VF lc ld
  rotate_left
  · rw [vF_false g2] at hv6
    subst hv6
    obtain ⟨rfl, rfl, rfl⟩ := BADV.out (fun h => g2 h.2.2)
    go_wp2_with (go_at_call 18; refine (lives_any _).mono ?_; rintro e w7 ⟨v9, rfl, rfl, hb9⟩)
    go_returns
    exact ⟨_, rfl, rfl, bt HB1.out (bt HB6.out hb9)⟩
  rw [vF_true g2] at hv6
  subst hv6
  have HFQ := Lib.hid (show FracQ (wsT rs (qv la lb) (qv lc ld) m) (.tuple #[.agg #[.int .i64 a, .int .i64 b], .int .i64 er]) by rw [← HM.out]; exact HSL.out.1 ⟨g, g1, g2⟩)
  have G1 := Lib.hid g1
  have G2 := Lib.hid g2
  clear g g1 g2 BADV
  go_wp2_with fail
  refine (zlof_any la lb lc ld _ H1.out (by have := G1.out.1; omega) H3.out (by have := G2.out.1; omega)).mono ?_
  rintro e w7 ⟨v7, rfl, hz7, hb7⟩
  go_wp2_with fail
  refine (zworst_any A1 m c1 rs v7 _ _ 5 _ ((HR1.out.below HB6.out).below hb7) hz7 (by omega)).mono ?_
  rintro e w8 ⟨v8, rfl, hz8, hb8⟩
  go_wp2_with fail
  refine (xfrac_any hz8 (by omega)).mono ?_
  rintro e w9 ⟨v9, rfl, hf9, hb9⟩
  have e9 := HFQ.out.det hf9
  subst e9
  have HB9 := Lib.hid (bt HB6.out (bt hb7 (bt hb8 hb9)))
  have HBLK9 := Lib.hid (((HBLK6.out.below hb7).below hb8).below hb9)
  clear hz7 hz8 hf9 hb7 hb8 hb9 k4 k0
  go_upto_region 6 with fail
  refine wp_world (fun W5 => Blk W5 w9.heap.size TF #[.int .i64 a, .int .i64 b] ∧ Below w9.heap.size w9 W5) (by exact ⟨Blk.new_ _ _ rfl, by go_grown⟩) ?_
  rintro W5 ⟨e5, hb10⟩
  have k2 := (HBLK9.out.below hb10).cells
  have k5 := e5.cells
  simp only [cellsAre, Nat.zero_add, Nat.reduceAdd, and_true] at k2 k5
  have HW5 := Lib.hid (bt HB1.out (bt HB9.out hb10))
  clear e5 hb10
  go_wp2_with (go_at_call 18; refine (lives_any _).mono ?_; rintro e w11 ⟨v11, rfl, rfl, hb11⟩)
  go_returns
  exact ⟨_, rfl, rfl, bt HW5.out hb11⟩
end Go.Proofs.Tb
