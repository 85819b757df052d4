/- Contracts of package rate: between, bent, rat, half, line; comparing bends. -/
import Derived.Test.YtcbffkkcldnegaaRateA
set_option linter.unusedVariables false
set_option linter.unusedSimpArgs false
namespace Go.Proofs.Tb
open Go.RowKit
attribute [local go_sem] cell_set_same
abbrev TRD : TypeId := 44
abbrev TSP : TypeId := 106
abbrev TBD : TypeId := 102
abbrev TAL : TypeId := 26

theorem mul_bd (a b : Int) (h1 : -2000000 ≤ a) (h2 : a ≤ 2000000) (h3 : -2000000 ≤ b) (h4 : b ≤ 2000000) : -4000000000000 ≤ a * b ∧ a * b ≤ 4000000000000 := by
  have h : (a * b).natAbs ≤ 4000000000000 := by
    rw [Int.natAbs_mul]
    calc a.natAbs * b.natAbs ≤ 2000000 * 2000000 := Nat.mul_le_mul (by omega) (by omega)
      _ = 4000000000000 := by decide
  omega
/-- A reading's value. -/
def RV (x : Rdg) : Value := .agg #[.int .i64 x.1, .int .i64 x.2]
set_option maxHeartbeats 800000 in
theorem rbent_any (t0 y0 t1 y1 t2 y2 : Int) (w : World) (h0 : -1000000 ≤ t0 ∧ t0 ≤ 1000000 ∧ -1000000 ≤ y0 ∧ y0 ≤ 1000000) (h1 : -1000000 ≤ t1 ∧ t1 ≤ 1000000 ∧ -1000000 ≤ y1 ∧ y1 ≤ 1000000) (h2 : -1000000 ≤ t2 ∧ t2 ≤ 1000000 ∧ -1000000 ≤ y2 ∧ y2 ≤ 1000000) :
    Calls Try.prog 109 #[.agg #[.int .i64 t0, .int .i64 y0], .agg #[.int .i64 t1, .int .i64 y1], .agg #[.int .i64 t2, .int .i64 y2]] w (Ret (fun v _ => v = .agg #[.int .i64 ((y1 - y0) * (t2 - t0) - (y2 - y0) * (t1 - t0)), .int .i64 (t2 - t0)]) w) := by
  obtain ⟨a1, a2, a3, a4⟩ := h0
  obtain ⟨b1, b2, b3, b4⟩ := h1
  obtain ⟨c1, c2, c3, c4⟩ := h2
  have m1 : -4000000000000 ≤ (y1 - y0) * (t2 - t0) ∧ (y1 - y0) * (t2 - t0) ≤ 4000000000000 := mul_bd _ _ (by omega) (by omega) (by omega) (by omega)
  have m2 : -4000000000000 ≤ (y2 - y0) * (t1 - t0) ∧ (y2 - y0) * (t1 - t0) ≤ 4000000000000 := mul_bd _ _ (by omega) (by omega) (by omega) (by omega)
  obtain ⟨m1a, m1b⟩ := m1
  obtain ⟨m2a, m2b⟩ := m2
  go_enter Try.func109, Try.ntmps109
  go_wp2
  go_returns
  exact ⟨_, rfl, rfl, by go_grown⟩

set_option maxHeartbeats 800000 in
theorem rbetween_any (t0 y0 t1 y1 : Int) (w : World) (h0 : -1000000 ≤ t0 ∧ t0 ≤ 1000000 ∧ -1000000 ≤ y0 ∧ y0 ≤ 1000000) (h1 : -1000000 ≤ t1 ∧ t1 ≤ 1000000 ∧ -1000000 ≤ y1 ∧ y1 ≤ 1000000) :
    Calls Try.prog 73 #[.agg #[.int .i64 t0, .int .i64 y0], .agg #[.int .i64 t1, .int .i64 y1]] w (Ret (fun v _ => v = if t1 < t0 then .agg #[.int .i64 (y0 - y1), .int .i64 (t0 - t1)] else .agg #[.int .i64 (y1 - y0), .int .i64 (t1 - t0)]) w) := by
  obtain ⟨a1, a2, a3, a4⟩ := h0
  obtain ⟨b1, b2, b3, b4⟩ := h1
  by_cases hlt : t1 < t0
  · rw [if_pos hlt]
    go_enter Try.func73, Try.ntmps73
    go_wp2
    go_returns
    exact ⟨_, rfl, rfl, by go_grown⟩
  · rw [if_neg hlt]
    go_enter Try.func73, Try.ntmps73
    go_wp2
    go_returns
    exact ⟨_, rfl, rfl, by go_grown⟩

theorem and_mask (x : Nat) (hx : x < 18446744073709551616) : bits BinOp.and IntKind.u64 (x : Int) 4294967295 = ((x % 4294967296 : Nat) : Int) := by
  have h := u64_and_nat x 4294967295 hx (by omega)
  have h2 := Nat.and_two_pow_sub_one_eq_mod x 32
  rw [show (2 : Nat) ^ 32 - 1 = 4294967295 by decide, show (2 : Nat) ^ 32 = 4294967296 by decide] at h2
  rw [h2] at h
  exact h
set_option maxHeartbeats 1600000 in
theorem mul64_small (x y : Nat) (w : World) (hx : x < 8796093022208) (hy : y < 2097152) :
    Calls Try.prog 121 #[.int .u64 x, .int .u64 y] w fun e w' => e = .returned (.tuple #[.int .u64 0, .int .u64 (x * y : Nat)]) ∧ w = w' := by
  obtain ⟨x0, hx0⟩ : ∃ k, x % 4294967296 = k := ⟨_, rfl⟩
  obtain ⟨x1, hx1⟩ : ∃ k, x / 4294967296 = k := ⟨_, rfl⟩
  have e1 := and_mask x (by omega)
  rw [hx0] at e1
  have e2 : (x : Int) / 4294967296 = (x1 : Int) := by omega
  have e3 := and_mask y (by omega)
  rw [Nat.mod_eq_of_lt (show y < 4294967296 by omega)] at e3
  have e4 : (y : Int) / 4294967296 = 0 := by omega
  have b1 : x1 < 2048 := by omega
  have b0 : x0 < 4294967296 := by omega
  have p0 : x0 * y < 9007199254740992 := by
    have := Nat.mul_le_mul (show x0 ≤ 4294967295 by omega) (show y ≤ 2097151 by omega); omega
  have p1 : x1 * y < 4294967296 - 2097152 := by
    have := Nat.mul_le_mul (show x1 ≤ 2047 by omega) (show y ≤ 2097151 by omega); omega
  have p2 : x * y < 18446744073709551615 := by
    have := Nat.mul_le_mul (show x ≤ 8796093022207 by omega) (show y ≤ 2097151 by omega); omega
  obtain ⟨P0, hP0⟩ : ∃ k, x0 * y = k := ⟨_, rfl⟩
  obtain ⟨P1, hP1⟩ : ∃ k, x1 * y = k := ⟨_, rfl⟩
  obtain ⟨P, hP⟩ : ∃ k, x * y = k := ⟨_, rfl⟩
  have e5 : (x0 : Int) * (y : Int) = (P0 : Int) := by rw [← hP0]; simp
  have e6 : (x1 : Int) * (y : Int) = (P1 : Int) := by rw [← hP1]; simp
  have e7 : (x : Int) * (y : Int) = (P : Int) := by rw [← hP]; simp
  rw [hP0] at p0
  rw [hP1] at p1
  rw [hP] at p2 ⊢
  obtain ⟨q, hq⟩ : ∃ k, P0 / 4294967296 = k := ⟨_, rfl⟩
  have e8 : (P0 : Int) / 4294967296 = (q : Int) := by omega
  have bq : q < 2097152 := by omega
  obtain ⟨t, ht⟩ : ∃ k, P1 + q = k := ⟨_, rfl⟩
  have e9 : (P1 : Int) + (q : Int) = (t : Int) := by omega
  have bt' : t < 4294967296 := by omega
  have e10 := and_mask t (by omega)
  rw [Nat.mod_eq_of_lt bt'] at e10
  have e11 : (t : Int) / 4294967296 = 0 := by omega
  clear hx0 hx1 hP0 hP1 hP hq ht
  go_enter Try.func121, Try.ntmps121
  go_wp2
  go_returns
  exact ⟨rfl, rfl⟩

set_option maxHeartbeats 800000 in
theorem isNaN_any (x : Int) (w : World) : Calls Try.prog 131 #[.int .u64 x] w fun e w' => e = .returned (.bool false) ∧ w = w' := by
  have h : (x != x) = false := by simp
  go_enter Try.func131, Try.ntmps131
  go_wp2
  go_returns
  exact ⟨rfl, rfl⟩
/-- cmp.Compare. -/
def cmpI (x y : Int) : Int := if x < y then -1 else if y < x then 1 else 0
set_option maxHeartbeats 800000 in
theorem compare_any (x y : Int) (w : World) : Calls Try.prog 123 #[.int .u64 x, .int .u64 y] w fun e w' => e = .returned (.int .i64 (cmpI x y)) ∧ w = w' := by
  unfold cmpI
  by_cases h1 : x < y
  · rw [if_pos h1]
    go_enter Try.func123, Try.ntmps123
    go_wp2_with (go_at_call 131; refine (isNaN_any _ _).mono ?_; rintro e w' ⟨rfl, rfl⟩)
    go_returns
    exact ⟨rfl, rfl⟩
  · rw [if_neg h1]
    by_cases h2 : y < x
    · rw [if_pos h2]
      go_enter Try.func123, Try.ntmps123
      go_wp2_with (go_at_call 131; refine (isNaN_any _ _).mono ?_; rintro e w' ⟨rfl, rfl⟩)
      go_returns
      exact ⟨rfl, rfl⟩
    · rw [if_neg h2]
      go_enter Try.func123, Try.ntmps123
      go_wp2_with (go_at_call 131; refine (isNaN_any _ _).mono ?_; rintro e w' ⟨rfl, rfl⟩)
      go_returns
      exact ⟨rfl, rfl⟩

set_option maxHeartbeats 800000 in
theorem rrat_any (sn sd : Int) (w : World)  (h1 : -9223372036854775808 ≤ sn) (h2 : sn ≤ 9223372036854775807) (h3 : -9223372036854775808 ≤ sd) (h4 : sd ≤ 9223372036854775807) (h5 : sd ≠ 0) :
    Calls Try.prog 74 #[.agg #[.int .i64 sn, .int .i64 sd]] w (Ret (fun v w' => WQ w' v (rn sn sd) (rd sd)) w) := by
  have H5_ := Lib.hid h5
  clear h5
  go_enter Try.func74, Try.ntmps74
  go_wp2
  refine wp_world (fun W0 => Blk W0 (w.heap.size) TSP #[.int .i64 sn, .int .i64 sd] ∧ Blk W0 (w.heap.size + 1) TR #[.bool false, .slice none 0 0, .bool false, .slice none 0 0] ∧ Below w.heap.size w W0) (by exact ⟨(Blk.new_ _ _ rfl).alloc _, Blk.new_ _ _ (by simp), by go_grown⟩) ?_
  rintro W0 ⟨b0, b1, hbw⟩
  have k0 := fun w' (hh : Held (w.heap.size + 1) 4 TR W0 w') => (b0.held hh (by omega)).cells
  have hst : Held (w.heap.size + 1) 4 TR W0 W0.drew := b1.heldS.drew
  have r1 := (rules (w.heap.size + 1) 4 TR W0).some
  have r2 := (rules (w.heap.size + 1) 4 TR W0).free
  simp only [cellsAre, Nat.zero_add, Nat.reduceAdd, and_true] at k0
  clear b0 b1
  have bw0 : Below w.heap.size w W0.drew := hbw.drew
  go_region_held3 (fun w' => Held (w.heap.size + 1) 4 TR W0 w') (first | assumption | exact Held.trans_ (by assumption) (by assumption) | exact Held.set_ (Held.set_ (Held.set_ (Held.set_ ((by assumption)) _ _) _ _) _ _) _ _)
    (first | (go_at_call 57; have tk := hb2; refine (wratio_any _ _ (sn) (sd) _ ⟨_, _, _, rfl, (hx1_0.below hb2)⟩ ⟨_, _, _, rfl, hx2_0⟩ H5_.out).mono ?_; rintro e w3 ⟨v3, rfl, ⟨A3_0, n3_0, c3_0, A3_1, n3_1, c3_1, rfl, hx3_0, hx3_1, hp3_0⟩, hb3⟩; have hh3 : Held (w.heap.size + 1) 4 TR W0 w3 := hh2.trans_ hb3; have bw3 := bt bw2 hb3) | (go_at_call 58; have tk := hb1; refine (wof_any (sd) _ (by omega) (by omega)).mono ?_; rintro e w2 ⟨v2, rfl, ⟨A2_0, n2_0, c2_0, rfl, hx2_0⟩, hb2⟩; have hh2 : Held (w.heap.size + 1) 4 TR W0 w2 := hh1.trans_ hb2; have bw2 := bt bw1 hb2) | (go_at_call 58; refine (wof_any (sn) _ (by omega) (by omega)).mono ?_; rintro e w1 ⟨v1, rfl, ⟨A1_0, n1_0, c1_0, rfl, hx1_0⟩, hb1⟩; have hh1 : Held (w.heap.size + 1) 4 TR W0 w1 := hst.trans_ hb1; have bw1 := bt bw0 hb1))
  go_wp2
  (try simp only [Exit.inBlock, Exit.then])
  refine bodyPost_ret (v := .agg #[.bool (ng (rn sn sd)), .slice A3_0 n3_0 c3_0, .bool (ng (rd sd)), .slice A3_1 n3_1 c3_1]) (by simp [results, Try.results74, go_sem, r1 _ hh3]) rfl ?_
  have hst2 := Held.set_ (Held.set_ (Held.set_ (Held.set_ (hh3.here) 0 (.bool (ng (rn sn sd)))) 1 (.slice A3_0 n3_0 c3_0)) 2 (.bool (ng (rd sd)))) 3 (.slice A3_1 n3_1 c3_1)
  exact ⟨_, rfl, ⟨_, _, _, _, _, _, rfl, (hx3_0).held hst2 (by decide), (hx3_1).held hst2 (by decide), hp3_0⟩, (hh3.trans2 hst2).below hbw (by omega)⟩

set_option maxHeartbeats 800000 in
theorem rhalf_any (sn sd : Int) (w : World)  (h1 : -9223372036854775808 ≤ sn) (h2 : sn ≤ 9223372036854775807) (h3 : -4611686018427387904 ≤ sd) (h4 : sd ≤ 4611686018427387903) (h5 : 2 * sd ≠ 0) :
    Calls Try.prog 76 #[.agg #[.int .i64 sn, .int .i64 sd]] w (Ret (fun v w' => WQ w' v (rn sn (2 * sd)) (rd (2 * sd))) w) := by
  have H5_ := Lib.hid h5
  clear h5
  have q2 : IntKind.i64.wrap (2 * sd) = 2 * sd := IntWalk.i64_in _ (by omega)
  go_enter Try.func76, Try.ntmps76
  go_wp2
  refine wp_world (fun W0 => Blk W0 (w.heap.size) TBD #[.int .i64 sn, .int .i64 sd] ∧ Blk W0 (w.heap.size + 1) TR #[.bool false, .slice none 0 0, .bool false, .slice none 0 0] ∧ Below w.heap.size w W0) (by exact ⟨(Blk.new_ _ _ rfl).alloc _, Blk.new_ _ _ (by simp), by go_grown⟩) ?_
  rintro W0 ⟨b0, b1, hbw⟩
  have k0 := fun w' (hh : Held (w.heap.size + 1) 4 TR W0 w') => (b0.held hh (by omega)).cells
  have hst : Held (w.heap.size + 1) 4 TR W0 W0.drew := b1.heldS.drew
  have r1 := (rules (w.heap.size + 1) 4 TR W0).some
  have r2 := (rules (w.heap.size + 1) 4 TR W0).free
  simp only [cellsAre, Nat.zero_add, Nat.reduceAdd, and_true] at k0
  clear b0 b1
  have bw0 : Below w.heap.size w W0.drew := hbw.drew
  go_region_held3 (fun w' => Held (w.heap.size + 1) 4 TR W0 w') (first | assumption | exact Held.trans_ (by assumption) (by assumption) | exact Held.set_ (Held.set_ (Held.set_ (Held.set_ ((by assumption)) _ _) _ _) _ _) _ _)
    (first | (go_at_call 57; have tk := hb2; refine (wratio_any _ _ (sn) ((2 * sd)) _ ⟨_, _, _, rfl, (hx1_0.below hb2)⟩ ⟨_, _, _, rfl, hx2_0⟩ H5_.out).mono ?_; rintro e w3 ⟨v3, rfl, ⟨A3_0, n3_0, c3_0, A3_1, n3_1, c3_1, rfl, hx3_0, hx3_1, hp3_0⟩, hb3⟩; have hh3 : Held (w.heap.size + 1) 4 TR W0 w3 := hh2.trans_ hb3; have bw3 := bt bw2 hb3) | (go_at_call 58; have tk := hb1; refine (wof_any ((2 * sd)) _ (by omega) (by omega)).mono ?_; rintro e w2 ⟨v2, rfl, ⟨A2_0, n2_0, c2_0, rfl, hx2_0⟩, hb2⟩; have hh2 : Held (w.heap.size + 1) 4 TR W0 w2 := hh1.trans_ hb2; have bw2 := bt bw1 hb2) | (go_at_call 58; refine (wof_any (sn) _ (by omega) (by omega)).mono ?_; rintro e w1 ⟨v1, rfl, ⟨A1_0, n1_0, c1_0, rfl, hx1_0⟩, hb1⟩; have hh1 : Held (w.heap.size + 1) 4 TR W0 w1 := hst.trans_ hb1; have bw1 := bt bw0 hb1))
  go_wp2
  (try simp only [Exit.inBlock, Exit.then])
  refine bodyPost_ret (v := .agg #[.bool (ng (rn sn ((2 * sd)))), .slice A3_0 n3_0 c3_0, .bool (ng (rd ((2 * sd)))), .slice A3_1 n3_1 c3_1]) (by simp [results, Try.results76, go_sem, r1 _ hh3]) rfl ?_
  have hst2 := Held.set_ (Held.set_ (Held.set_ (Held.set_ (hh3.here) 0 (.bool (ng (rn sn ((2 * sd)))))) 1 (.slice A3_0 n3_0 c3_0)) 2 (.bool (ng (rd ((2 * sd)))))) 3 (.slice A3_1 n3_1 c3_1)
  exact ⟨_, rfl, ⟨_, _, _, _, _, _, rfl, (hx3_0).held hst2 (by decide), (hx3_1).held hst2 (by decide), hp3_0⟩, (hh3.trans2 hst2).below hbw (by omega)⟩

end Go.Proofs.Tb
