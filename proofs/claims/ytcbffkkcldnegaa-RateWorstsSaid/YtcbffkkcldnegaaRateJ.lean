/- The program's rational numbers by value, with a bound of their sizes. -/
import Derived.Test.YtcbffkkcldnegaaRateG
set_option linter.unusedVariables false
set_option linter.unusedSimpArgs false
namespace Go.Proofs.Tb
open Go.RowKit

/-- v reads as the rational number x, with at most s words above and below. -/
def WX (w : World) (v : Value) (x : Rat) (s : Nat) : Prop := ∃ p q, WQ w v p q ∧ qv p q = x ∧ sz p ≤ s ∧ sz q ≤ s
theorem WX.form {w : World} {v : Value} {x : Rat} {s : Nat} (h : WX w v x s) : ∃ b A n c b' A' n' c', v = .agg #[.bool b, .slice A n c, .bool b', .slice A' n' c'] := by
  obtain ⟨p, q, ⟨A, n, c, A', n', c', rfl, _⟩, _⟩ := h
  exact ⟨_, _, _, _, _, _, _, _, rfl⟩
theorem WX.below {w w' : World} {v : Value} {x : Rat} {s : Nat} (h : WX w v x s) (hb : Below w.heap.size w w') : WX w' v x s := by
  obtain ⟨p, q, hq, h1, h2⟩ := h
  exact ⟨p, q, hq.below hb, h1, h2⟩
theorem WQ.held {w w' : World} {v : Value} {p q : Int} {R k : Nat} {T : TypeId} (h : WQ w v p q) (hh : Held R k T w w') (hT : TU ≠ T) : WQ w' v p q := by
  obtain ⟨A, n, c, A', n', c', hv, h1, h2, hq⟩ := h
  exact ⟨A, n, c, A', n', c', hv, h1.held hh hT, h2.held hh hT, hq⟩
theorem WX.held {w w' : World} {v : Value} {x : Rat} {s : Nat} {R k : Nat} {T : TypeId} (h : WX w v x s) (hh : Held R k T w w') (hT : TU ≠ T) : WX w' v x s := by
  obtain ⟨p, q, hq, h1, h2⟩ := h
  exact ⟨p, q, hq.held hh hT, h1, h2⟩
theorem WX.le {w : World} {v : Value} {x : Rat} {s t : Nat} (h : WX w v x s) (hst : s ≤ t) : WX w v x t := by
  obtain ⟨p, q, hq, h1, h2, h3⟩ := h
  exact ⟨p, q, hq, h1, by omega, by omega⟩
theorem sz_abs (x : Int) : sz (x.natAbs : Int) = sz x := by unfold sz; rw [Int.natAbs_natCast]
theorem WQ.q0 {w : World} {v : Value} {p q : Int} (h : WQ w v p q) : 0 < q := by
  obtain ⟨_, _, _, _, _, _, _, _, _, hq⟩ := h
  exact hq

section
variable {w : World} {a b : Value} {x y : Rat} {s t : Nat}
theorem vmul_any (ha : WX w a x s) (hb : WX w b y t) (hs : s + t ≤ 50000000000) : Calls Try.prog 62 #[a, b] w (Ret (fun v w' => WX w' v (x * y) (s + t)) w) := by
  obtain ⟨p, q, h1, rfl, h3, h4⟩ := ha
  obtain ⟨r, u, k1, rfl, k3, k4⟩ := hb
  refine (wqmul_any a b p q r u w h1 k1 (by omega)).mono ?_
  rintro e w' ⟨v, he, hv, hb⟩
  exact ⟨v, he, ⟨_, _, hv, qv_mul _ _ _ _, by have := sz_mul p r; omega, by have := sz_mul q u; omega⟩, hb⟩
theorem vadd_any (ha : WX w a x s) (hb : WX w b y t) (hs : s + t ≤ 50000000000) : Calls Try.prog 75 #[a, b] w (Ret (fun v w' => WX w' v (x + y) (s + t + 1)) w) := by
  obtain ⟨p, q, h1, rfl, h3, h4⟩ := ha
  obtain ⟨r, u, k1, rfl, k3, k4⟩ := hb
  refine (wqadd_any a b p q r u w h1 k1 (by omega)).mono ?_
  rintro e w' ⟨v, he, hv, hb⟩
  have q1 := h1.q0
  have q2 := k1.q0
  exact ⟨v, he, ⟨_, _, hv, qv_add (by omega) (by omega), sz_add_max _ _ _ (by have := sz_mul p u; omega) (by have := sz_mul r q; omega), by have := sz_mul q u; omega⟩, hb⟩
theorem vsub_any (ha : WX w a x s) (hb : WX w b y t) (hs : s + t ≤ 50000000000) : Calls Try.prog 61 #[a, b] w (Ret (fun v w' => WX w' v (x - y) (s + t + 1)) w) := by
  obtain ⟨p, q, h1, rfl, h3, h4⟩ := ha
  obtain ⟨r, u, k1, rfl, k3, k4⟩ := hb
  refine (wqsub_any a b p q r u w h1 k1 (by omega)).mono ?_
  rintro e w' ⟨v, he, hv, hb⟩
  rw [Int.neg_mul] at hv
  have q1 := h1.q0
  have q2 := k1.q0
  exact ⟨v, he, ⟨_, _, hv, qv_sub (by omega) (by omega), sz_add_max _ _ _ (by have := sz_mul p u; omega) (by rw [sz_neg]; have := sz_mul r q; omega), by have := sz_mul q u; omega⟩, hb⟩
theorem vdiv_any (ha : WX w a x s) (hb : WX w b y t) (hy : y ≠ 0) (hs : s + t ≤ 50000000000) : Calls Try.prog 63 #[a, b] w (Ret (fun v w' => WX w' v (x / y) (s + t)) w) := by
  obtain ⟨p, q, h1, rfl, h3, h4⟩ := ha
  obtain ⟨r, u, k1, rfl, k3, k4⟩ := hb
  have q1 := h1.q0
  have q2 := k1.q0
  have hr : r ≠ 0 := fun h => hy ((qv_zero (by omega)).2 h)
  refine (wqdiv_any a b p q r u w h1 k1 hr (by omega)).mono ?_
  rintro e w' ⟨v, he, hv, hb⟩
  exact ⟨v, he, ⟨_, _, hv, by rw [qv_rn (Int.mul_ne_zero (by omega) hr), qv_quo], by rw [sz_rn]; have := sz_mul p u; omega, by rw [sz_rd]; have := sz_mul q r; omega⟩, hb⟩
theorem vabs_any (ha : WX w a x s) : Calls Try.prog 77 #[a] w (Ret (fun v w' => WX w' v (rab x) s) w) := by
  obtain ⟨p, q, h1, rfl, h3, h4⟩ := ha
  refine (wqabs_any a p q w h1).mono ?_
  rintro e w' ⟨v, he, hv, hb⟩
  exact ⟨v, he, ⟨_, _, hv, qv_abs h1.q0, by rw [sz_abs]; exact h3, h4⟩, hb⟩
theorem vcmp_any (ha : WX w a x s) (hb : WX w b y t) (hs : s + t ≤ 50000000000) : Calls Try.prog 88 #[a, b] w (Ret (fun v _ => v = .int .i64 (cmpR x y)) w) := by
  obtain ⟨p, q, h1, rfl, h3, h4⟩ := ha
  obtain ⟨r, u, k1, rfl, k3, k4⟩ := hb
  rw [← sign_cmp h1.q0 k1.q0]
  exact wqcmp_any a b p q r u w h1 k1 (by omega)
theorem vfrac_any (ha : WX w a x s) (hs : s ≤ 100000000000) : Calls Try.prog 78 #[a] w (Ret (fun v _ => FracQ x v) w) := by
  obtain ⟨p, q, h1, rfl, h3, h4⟩ := ha
  refine (wfrac_any a p q w h1 (by omega) (by omega)).mono ?_
  rintro e w' ⟨v, he, hv, hb⟩
  exact ⟨v, he, hv.q h1.q0, hb⟩
end
theorem vwhole_any (n : Int) (w : World) (h1 : -9223372036854775808 ≤ n) (h2 : n ≤ 9223372036854775807) : Calls Try.prog 60 #[.int .i64 n] w (Ret (fun v w' => WX w' v (n : Rat) 2) w) := by
  refine (wwhole_any n w h1 h2).mono ?_
  rintro e w' ⟨v, he, hv, hb⟩
  exact ⟨v, he, ⟨_, _, hv, qv_one n, sz_small n h1 h2, sz_small 1 (by omega) (by omega)⟩, hb⟩
theorem vfrom_any (n d : Int) (w : World) (h1 : -9223372036854775808 ≤ n) (h2 : n ≤ 9223372036854775807) (h3 : 0 < d) (h4 : d ≤ 9223372036854775807) :
    Calls Try.prog 87 #[.agg #[.int .i64 n, .int .i64 d]] w (Ret (fun v w' => WX w' v (qv n d) 2) w) := by
  refine (wfrom_any n d w h1 h2 h3 h4).mono ?_
  rintro e w' ⟨v, he, hv, hb⟩
  exact ⟨v, he, ⟨_, _, hv, rfl, sz_small n h1 h2, sz_small d (by omega) (by omega)⟩, hb⟩
end Go.Proofs.Tb
