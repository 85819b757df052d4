/- lives: what it asks of Least and Squares holds. -/
import Derived.Test.YtcbffkkcldnegaaRateG
set_option linter.unusedVariables false
set_option linter.unusedSimpArgs false
namespace Go.Proofs.Tb
open Go.RowKit
attribute [local go_sem] cell_set_same

def rs0 : List Rdg := [(0, 0), (1, 1), (2, 0)]
theorem vld0 : Vld rs0 := by
  refine ⟨by decide, by decide, fun k hk => ?_⟩
  have : k = 0 ∨ k = 1 ∨ k = 2 := by have : rs0.length = 3 := rfl; omega
  unfold okAt rs0
  rcases this with rfl | rfl | rfl <;> simp
theorem half_eq : qv 1 2 = (1 : Rat) / 2 := by rw [qv_div]; rfl
theorem least0 : IsLeast rs0.length (tq rs0) (yq rs0) 0 (qv 1 2) (qv 1 2) := by
  have e0 : tq rs0 0 = 0 := rfl
  have e1 : tq rs0 1 = 1 := rfl
  have e2 : tq rs0 2 = 2 := rfl
  have f0 : yq rs0 0 = 0 := rfl
  have f1 : yq rs0 1 = 1 := rfl
  have f2 : yq rs0 2 = 0 := rfl
  rw [half_eq]
  refine ⟨fun i hi => ?_, Or.inr ⟨0, 1, 2, by omega, by omega, by decide, ?_, ?_, Or.inr ?_⟩⟩
  · have : i = 0 ∨ i = 1 ∨ i = 2 := by have : rs0.length = 3 := rfl; omega
    unfold er
    rcases this with rfl | rfl | rfl
    · rw [e0, f0]; grind
    · rw [e1, f1]; grind
    · rw [e2, f2]; grind
  · unfold er; rw [e0, f0, e1, f1]; grind
  · unfold er; rw [e0, f0, e2, f2]; grind
  · unfold er; rw [e0, f0]; grind
theorem fit_qv {p q : Int} (hq : 0 < q) (h1 : Lim (lown p q)) (h2 : Lim (lowd p q)) : fitQ (qv p q) := (okFrac_q hq).1 ⟨h1, h2⟩
theorem lo12 : lown 1 2 = 1 ∧ lowd 1 2 = 2 := by decide +kernel
theorem lo13 : lown 1 3 = 1 ∧ lowd 1 3 = 3 := by decide +kernel
theorem num12 : (qv 1 2).num = 1 ∧ ((qv 1 2).den : Int) = 2 := by rw [← lown_q (by omega), ← lowd_q (by omega)]; exact lo12
theorem num13 : (qv 1 3).num = 1 ∧ ((qv 1 3).den : Int) = 3 := by rw [← lown_q (by omega), ← lowd_q (by omega)]; exact lo13
theorem fit0 : fitQ 0 := ⟨by unfold Lim; decide, by unfold Lim; decide⟩
theorem fit12 : fitQ (qv 1 2) := by unfold fitQ; rw [num12.1, num12.2]; exact ⟨by unfold Lim; decide, by unfold Lim; decide⟩
theorem fit13 : fitQ (qv 1 3) := by unfold fitQ; rw [num13.1, num13.2]; exact ⟨by unfold Lim; decide, by unfold Lim; decide⟩
theorem leastR0 {v : Value} {w : World} (h : LeastR rs0 v w) : v = .tuple #[.agg #[.int .i64 0, .int .i64 1, .int .i64 1, .int .i64 2], .agg #[.int .i64 1, .int .i64 2], .int .i64 0] := by
  have h1 := ((LeastV.q vld0 (h.2 vld0)).det vld0 least0).1 ⟨fit0, fit12, fit12⟩
  rw [h1, num12.1, num12.2]; rfl
theorem squR0 {v : Value} {w : World} (h : SquR rs0 v w) : v = .tuple #[.agg #[.int .i64 0, .int .i64 1, .int .i64 1, .int .i64 3], .int .i64 0] := by
  obtain ⟨p, q, r, s, hq, hs, hl, e1, e2⟩ := h.2 vld0
  have hl := hl.q hq hs
  have g1 : qv p q = 0 := by
    rw [e1]
    have : sqN rs0.length (sm Go.Proofs.Tb.g1 rs0) (sm g2 rs0) (sm g4 rs0) = 0 := by decide
    rw [this]
    have : sqD rs0.length (sm Go.Proofs.Tb.g1 rs0) (sm g3 rs0) = 6 := by decide
    rw [this]
    rw [← qv_div, qv_zero (by omega)]
  have g2' : qv r s = qv 1 3 := by
    rw [e2, g1]
    have a : sm g2 rs0 = 1 := by decide
    have b : (rs0.length : Rat) = 3 := rfl
    rw [a, b, Rat.zero_mul, qv_div]
    have c : ((1 : Int) : Rat) = 1 := rfl
    have d : ((3 : Int) : Rat) = 3 := rfl
    rw [c, d]; grind
  rw [g1, g2'] at hl
  rw [hl.1 ⟨fit0, fit13⟩, num13.1, num13.2]; rfl

set_option maxHeartbeats 1600000 in
set_option maxRecDepth 100000 in
theorem lives_any (w : World) : Calls Try.prog 18 #[] w (Ret (fun v _ => v = .bool true) w) := by
  go_enter Try.func18, Try.ntmps18
  go_wp2_with fail
  obtain ⟨W0, hW0⟩ : ∃ W0, W0 = w.alloc (.cells #[.int .i64 0, .int .i64 0, .int .i64 1, .int .i64 1, .int .i64 2, .int .i64 0] TRD) := ⟨_, rfl⟩
  have b0 : Blk W0 w.heap.size TRD #[.int .i64 0, .int .i64 0, .int .i64 1, .int .i64 1, .int .i64 2, .int .i64 0] := by rw [hW0]; exact Blk.new_ _ _ rfl
  have hbw : Below w.heap.size w W0 := by rw [hW0]; go_grown
  rw [← hW0]
  clear hW0
  have hrd : Rd W0 (some ⟨w.heap.size, 0, none⟩) 3 3 rs0 := by
    have k := b0.cells
    simp only [cellsAre, Nat.zero_add, Nat.reduceAdd, and_true] at k
    refine ⟨rfl, Nat.le_refl _, by omega, fun _ => ⟨w.heap.size, 0, rfl, fun j hj => ?_⟩, ?_⟩
    · have : j = 0 ∨ j = 1 ∨ j = 2 := by omega
      rcases this with rfl | rfl | rfl
      · exact ⟨k.1, k.2.1⟩
      · exact ⟨k.2.2.1, k.2.2.2.1⟩
      · exact ⟨k.2.2.2.2.1, k.2.2.2.2.2⟩
    · intro x hx
      simp only [rs0, List.mem_cons, List.not_mem_nil, or_false] at hx
      rcases hx with rfl | rfl | rfl <;> simp
  have HRD := Lib.hid hrd
  have HBW := Lib.hid hbw
  clear b0 hrd hbw
  refine (rleast_any _ 3 3 rs0 _ HRD.out).mono ?_
  rintro e w1 ⟨v1, rfl, h1, hb1⟩
  have hv1 := leastR0 h1
  subst hv1
  clear h1
  have HB1 := Lib.hid hb1
  clear hb1
  go_wp2_with fail
  have hbx : Below w1.heap.size w1 ((w1.alloc (.cells #[.int .i64 0, .int .i64 1, .int .i64 1, .int .i64 2] TAL)).alloc (.cells #[.int .i64 1, .int .i64 2] TF)) := by go_grown
  have d2 : Blk ((w1.alloc (.cells #[.int .i64 0, .int .i64 1, .int .i64 1, .int .i64 2] TAL)).alloc (.cells #[.int .i64 1, .int .i64 2] TF)) w1.heap.size TAL #[.int .i64 0, .int .i64 1, .int .i64 1, .int .i64 2] := (Blk.new_ _ _ rfl).alloc _
  have d3 : Blk ((w1.alloc (.cells #[.int .i64 0, .int .i64 1, .int .i64 1, .int .i64 2] TAL)).alloc (.cells #[.int .i64 1, .int .i64 2] TF)) (w1.heap.size + 1) TF #[.int .i64 1, .int .i64 2] := Blk.new_ _ _ (by simp)
  refine (rsquares_any _ 3 3 rs0 _ ((HRD.out.below HB1.out).below hbx)).mono ?_
  rintro e w2 ⟨v2, rfl, h2, hb2⟩
  have hv2 := squR0 h2
  subst hv2
  have D2 := Lib.hid (d2.below hb2)
  have D3 := Lib.hid (d3.below hb2)
  have HB2 := Lib.hid (bt HBW.out (bt HB1.out (bt hbx hb2)))
  clear h2 d2 d3 hbx hb2
  go_upto_region 5 with fail
  refine wp_world (fun W5 => Blk W5 w2.heap.size TAL #[.int .i64 0, .int .i64 1, .int .i64 1, .int .i64 3] ∧ Blk W5 (w2.heap.size + 1) TF #[.int .i64 1, .int .i64 2] ∧ Below w2.heap.size w2 W5) (by exact ⟨(Blk.new_ _ _ rfl).alloc _, Blk.new_ _ _ (by simp), by go_grown⟩) ?_
  rintro W5 ⟨e5, e7, hb5⟩
  have k2 := (D2.out.below hb5).cells
  have k3 := (D3.out.below hb5).cells
  have k5 := e5.cells
  have k7 := e7.cells
  simp only [cellsAre, Nat.zero_add, Nat.reduceAdd, and_true] at k2 k3 k5 k7
  have HW5 := Lib.hid (bt HB2.out hb5)
  clear e5 e7 hb5
  go_wp2
  go_returns
  exact ⟨_, rfl, rfl, HW5.out⟩
end Go.Proofs.Tb
