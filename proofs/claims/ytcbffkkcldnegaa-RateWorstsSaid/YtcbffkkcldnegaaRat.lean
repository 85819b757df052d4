/- Plain laws: fractions as rational numbers. No program stands here. -/
set_option linter.unusedVariables false
set_option linter.unusedSimpArgs false
namespace Go.Proofs.Tb
/-- p/q as a rational number. -/
def qv (p q : Int) : Rat := Rat.divInt p q
theorem qv_div (p q : Int) : qv p q = (p : Rat) / (q : Rat) := Rat.divInt_eq_div p q
theorem qv_one (p : Int) : qv p 1 = (p : Rat) := by rw [qv_div]; grind
theorem qv_add {p q r s : Int} (hq : q ≠ 0) (hs : s ≠ 0) : qv (p * s + r * q) (q * s) = qv p q + qv r s := (Rat.divInt_add_divInt p r hq hs).symm
theorem qv_sub {p q r s : Int} (hq : q ≠ 0) (hs : s ≠ 0) : qv (p * s + -(r * q)) (q * s) = qv p q - qv r s := by
  rw [← Int.sub_eq_add_neg]; exact (Rat.divInt_sub_divInt p r hq hs).symm
theorem qv_mul (p q r s : Int) : qv (p * r) (q * s) = qv p q * qv r s := (Rat.divInt_mul_divInt p r).symm
theorem qv_neg (p q : Int) : qv (-p) q = -qv p q := (Rat.neg_divInt p q).symm
theorem qv_negneg (p q : Int) : qv (-p) (-q) = qv p q := Rat.neg_divInt_neg p q
theorem qv_inv (p q : Int) : qv q p = (qv p q)⁻¹ := (Rat.inv_divInt p q).symm
theorem qv_quo (p q r s : Int) : qv (p * s) (q * r) = qv p q / qv r s := by
  rw [qv_mul, qv_inv r s, Rat.div_def]
theorem cast_pos {q : Int} (h : 0 < q) : (0 : Rat) < (q : Rat) := Rat.intCast_pos.2 h
theorem qv_lt {p q r s : Int} (hq : 0 < q) (hs : 0 < s) : qv p q < qv r s ↔ p * s < r * q := by
  have h1 := cast_pos hq
  have h2 := cast_pos hs
  rw [qv_div, qv_div, Rat.div_lt_iff h1]
  have e : (r : Rat) / (s : Rat) * (q : Rat) = (r * q) / (s : Rat) := by
    rw [Rat.div_def, Rat.div_def, Rat.mul_assoc, Rat.mul_assoc, Rat.mul_comm (q : Rat)]
  rw [e, Rat.lt_div_iff h2, ← Rat.intCast_mul, ← Rat.intCast_mul, Rat.intCast_lt_intCast]
theorem qv_eq {p q r s : Int} (hq : q ≠ 0) (hs : s ≠ 0) : qv p q = qv r s ↔ p * s = r * q := Rat.divInt_eq_divInt_iff hq hs
theorem qv_le {p q r s : Int} (hq : 0 < q) (hs : 0 < s) : qv p q ≤ qv r s ↔ p * s ≤ r * q := by
  rw [← Rat.not_lt, qv_lt hs hq]; omega
theorem qv_pos {p q : Int} (hq : 0 < q) : 0 < qv p q ↔ 0 < p := by
  have h := qv_lt (p := 0) (q := 1) (r := p) (s := q) (by omega) hq
  rw [qv_one] at h
  simpa using h
theorem qv_zero {p q : Int} (hq : q ≠ 0) : qv p q = 0 ↔ p = 0 := by
  have h := qv_eq (p := p) (q := q) (r := 0) (s := 1) hq (by omega)
  rw [qv_one] at h
  simpa using h
/-- The absolute value. -/
def rab (x : Rat) : Rat := if x < 0 then -x else x
theorem qv_neg_iff {p q : Int} (hq : 0 < q) : qv p q < 0 ↔ p < 0 := by
  have h := qv_lt (p := p) (q := q) (r := 0) (s := 1) hq (by omega)
  rw [qv_one] at h
  simpa using h
theorem qv_abs {p q : Int} (hq : 0 < q) : qv (p.natAbs : Int) q = rab (qv p q) := by
  unfold rab
  by_cases h : p < 0
  · rw [if_pos ((qv_neg_iff hq).2 h), ← qv_neg]; congr 1; omega
  · rw [if_neg (fun h' => h ((qv_neg_iff hq).1 h'))]; congr 1; omega
theorem rab_nonneg (x : Rat) : 0 ≤ rab x := by unfold rab; split <;> grind
theorem rab_neg (x : Rat) : rab (-x) = rab x := by unfold rab; split <;> split <;> grind
/-- How two rational numbers compare: -1, 0 or 1. -/
def cmpR (x y : Rat) : Int := if x < y then -1 else if y < x then 1 else 0
theorem cmpR_lt {x y : Rat} : cmpR x y < 0 ↔ x < y := by unfold cmpR; split <;> (try split) <;> grind
theorem cmpR_gt {x y : Rat} : 0 < cmpR x y ↔ y < x := by unfold cmpR; split <;> (try split) <;> grind
theorem cmpR_eq {x y : Rat} : cmpR x y = 0 ↔ x = y := by unfold cmpR; split <;> (try split) <;> grind
theorem sign_cmp {p q r s : Int} (hq : 0 < q) (hs : 0 < s) : Int.sign (p * s + -(r * q)) = cmpR (qv p q) (qv r s) := by
  unfold cmpR
  by_cases h1 : p * s < r * q
  · rw [if_pos ((qv_lt hq hs).2 h1), Int.sign_eq_neg_one_of_neg (by omega)]
  · rw [if_neg (fun h => h1 ((qv_lt hq hs).1 h))]
    by_cases h2 : r * q < p * s
    · rw [if_pos ((qv_lt hs hq).2 h2), Int.sign_eq_one_of_pos (by omega)]
    · rw [if_neg (fun h => h2 ((qv_lt hs hq).1 h)), show p * s + -(r * q) = 0 by omega]; rfl
theorem qv_num {p q : Int} (hq : 0 < q) : (qv p q).num = p / (Int.gcd p q : Int) := by
  unfold qv
  rw [Rat.num_divInt, Int.sign_eq_one_of_pos hq, Int.one_mul, Int.gcd_comm]
theorem qv_den {p q : Int} (hq : 0 < q) : ((qv p q).den : Int) = q / (Int.gcd p q : Int) := by
  unfold qv
  rw [Rat.den_divInt, if_neg (by omega), Int.gcd_comm]
  have : ((q.natAbs / Int.gcd p q : Nat) : Int) = (q.natAbs : Int) / (Int.gcd p q : Int) := by simp
  rw [this]; congr 1; omega
theorem qv_self (x : Rat) : qv x.num x.den = x := Rat.num_divInt_den x
theorem den_pos' (x : Rat) : (0 : Int) < (x.den : Int) := by have := x.den_pos; omega
end Go.Proofs.Tb
